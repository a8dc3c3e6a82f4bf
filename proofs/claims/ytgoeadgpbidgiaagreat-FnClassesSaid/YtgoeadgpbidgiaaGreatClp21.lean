/-
  The search for all words that are linked with a word, of the program (printed by sear.py).
-/
import Derived.Test.YtgoeadgpbidgiaaGreatClp20
import Derived.Test.YtgoeadgpbidgiaaGreatClp10
import Derived.Test.YtgoeadgpbidgiaaGreatClp01
import Derived.Test.YtgoeadgpbidgiaaGreatClp16
namespace Go.Proofs.YtgoeadgpbidgiaaGreat
open Go.RowKit Go.Maps Go.WideShapes
set_option linter.unusedVariables false
/-- an entry: from where, by which link, after how many -/
def arrV (f : ByteArray) (a b : Int) (c : Bool) (d : Int) : Value := .agg #[.string f, .int .i64 a, .int .i64 b, .bool c, .int .i64 d]
def arrOk : Value → Bool
  | .agg x => match x.toList with
    | [.string _, .int .i64 _, .int .i64 _, .bool _, .int .i64 _] => true
    | _ => false
  | _ => false
/-- a coarse reader: that the entry is one -/
def arrR (v : Value) : Option (DataW Unit × List MemPlace) := if arrOk v = true then some (.lit (.bool true), []) else none
theorem arr_mk (f : ByteArray) (a b : Int) (c : Bool) (d : Int) : arrR (arrV f a b c d) = some (.lit (.bool true), []) := rfl
theorem arr_ok {v : Value} (h : arrOk v = true) : ∃ f a b c d, v = arrV f a b c d := by
  unfold arrOk at h
  split at h
  · rename_i x
    split at h
    · rename_i f a b c d hx
      refine ⟨f, a, b, c, d, ?_⟩
      have e2 : x = #[.string f, .int .i64 a, .int .i64 b, .bool c, .int .i64 d] := Array.ext' hx
      rw [e2]; rfl
    · cases h
  · cases h
theorem arr_inv {v : Value} {z : DataW Unit × List MemPlace} (h : arrR v = some z) : ∃ f a b c d, v = arrV f a b c d := by
  unfold arrR at h
  split at h
  · rename_i hk; exact arr_ok hk
  · cases h
theorem zeroArr (w : World) : (zeroValue 85).run Tryz.prog w = .ok (arrV ⟨#[]⟩ 0 0 false 0) w := by kernel_rfl
/-- 'v, ok := m[k]', the entry's shape written out -/
theorem wpList_lookup_arr {w : World} {ops : Array Oper} {rest : List Oper} {o : Oper} {a : Act} {Q : Exit → Act → World → Prop} (hg : o.guard = none) (m x : Operand) (t : TypeId) (hop : o.op = Op.lookup t m x true)
    (k e : TypeId) (K : Keyed Tryz.prog k) (ht : Tryz.prog.underlying t = some (.map k e)) (hz : (zeroValue e).run Tryz.prog w = .ok (arrV ⟨#[]⟩ 0 0 false 0) w) (b n : Nat) (D : DataW Unit)
    (hm : a.eval m = .map (some b)) (hown : w.ownsMap Tryz.prog k arrR b n D) (key : Value) (kl : Lit) (hx : a.eval x = key) (hkey : keyOf Tryz.prog k key = some kl)
    (hK : ∀ f a1 b1 c d, wpList Tryz.prog ops Q rest (a.put o.dst (.tuple #[arrV f a1 b1 c d, .bool (Maps.has D kl)])) w) :
    wpList Tryz.prog ops Q (o :: rest) a w := by
  refine wpList_lookup_own_ok w hg m x t hop k e K ht arrR hz _ _ (arr_mk _ _ _ _ _) b n D hm hown key kl hx hkey fun v ps hv => ?_
  obtain ⟨f, a1, b1, c, d, rfl⟩ := arr_inv hv
  exact hK f a1 b1 c d
theorem row_map {w : World} {base base2 : Nat} {T : TypeId} {size : Nat} {v : Value} {n : Nat} {xs : List Value} {b m : Nat} {D : DataW Unit} (h : w.ownsRow base T size v n xs) (hm : w.ownsMap Tryz.prog 9 arrR b m D) : some b ≠ v.ownBlock := fun e => by
  obtain ⟨es, clock, hb, _⟩ := hm
  rcases h.2 with ⟨rfl, _⟩ | ⟨g, cap, cur, rfl, _, hg, _⟩
  · cases e
  · obtain rfl : b = g := by simpa [Value.ownBlock] using e
    rw [hg] at hb
    cases hb
theorem row_row {w : World} {base base2 : Nat} {T T2 : TypeId} {size size2 : Nat} {v v2 : Value} {n n2 : Nat} {xs ys : List Value} (h : w.ownsRow base T size v n xs) (h2 : w.ownsRow base2 T2 size2 v2 n2 ys) (hne : T ≠ T2) : v.ownBlock = none ∨ v.ownBlock ≠ v2.ownBlock := by
  rcases h.2 with ⟨rfl, _⟩ | ⟨g, cap, cur, rfl, _, hg, _⟩
  · exact .inl rfl
  · right
    rcases h2.2 with ⟨rfl, _⟩ | ⟨g2, cap2, cur2, rfl, _, hg2, _⟩
    · simp [Value.ownBlock]
    · intro e
      simp only [Value.ownBlock, Option.some.injEq] at e
      subst e
      rw [hg] at hg2
      have h3 := Option.some.inj hg2
      simp only [Obj.cells.injEq] at h3
      exact hne h3.2.1
theorem own_blk {w : World} {base : Nat} {T : TypeId} {size : Nat} {v : Value} {n : Nat} {xs : List Value} (h : w.ownsRow base T size v n xs) : ∀ k, v.ownBlock = some k → base ≤ k := by
  intro k hk
  rcases h.2 with ⟨rfl, _⟩ | ⟨g, cap, cur, rfl, hb, _⟩
  · cases hk
  · obtain rfl : g = k := by simpa [Value.ownBlock] using hk
    exact hb
/-- a search under way, in memory -/
structure SeaSt (w1 wr : World) (b : Nat) (D : DataW Unit) (vq : Value) (S : List ByteArray) : Prop where
  below : Below w1.heap.size w1 wr
  row : wr.ownsRow w1.heap.size 9 1 vq S.length (strVals S)
  map : wr.ownsMap Tryz.prog 9 arrR b S.length D
  hb : w1.heap.size ≤ b
  keys : ∀ v, Maps.has D (keyL v) = true ↔ v ∈ S
section
variable {w1 wr : World} {b : Nat} {D : DataW Unit} {vq : Value} {S : List ByteArray}
theorem SeaSt.later {w' : World} (h : SeaSt w1 wr b D vq S) (hb : Below wr.heap.size wr w') : SeaSt w1 w' b D vq S :=
  ⟨Below.now h.below hb, owns_later h.row hb, h.map.kept (belowGrown hb) (by simp), h.hb, h.keys⟩
theorem SeaSt.put {w' w4 : World} {v : ByteArray} {d : DataW Unit} {v4 : Value} (h : SeaSt w1 wr b D vq S) (hm : w'.ownsMap Tryz.prog 9 arrR b (S.length + 1) (D.put (keyL v) d)) (hg : wr.grownBy w' (some b)) {o : Obj}
    (ho : w4.ownsRow w1.heap.size 9 1 v4 (S.length + 1) (strVals S ++ [.string v])) (hg4 : (w'.alloc o).grownBy w4 vq.ownBlock) : SeaSt w1 w4 b (D.put (keyL v) d) v4 (S ++ [v]) := by
  have hrow : w'.ownsRow w1.heap.size 9 1 vq S.length (strVals S) := h.row.kept hg (by
    cases e : vq.ownBlock with
    | none => exact .inl rfl
    | some k => exact .inr (fun e2 => row_map (base2 := 0) h.row h.map (by rw [e, e2])))
  have hb1 : Below w1.heap.size w1 w' := h.below.grown hg h.below.size (fun k hk => by cases hk; exact h.hb)
  have hb2 : Below w1.heap.size w1 (w'.alloc o) := hb1.alloc hb1.size o
  refine ⟨hb2.grown hg4 hb2.size (own_blk hrow), ?_, ?_, h.hb, fun u => ?_⟩
  · rw [List.length_append]
    unfold strVals at *
    rw [List.map_append]
    exact ho
  · rw [List.length_append]
    exact (hm.alloc o).kept hg4 (row_map (base2 := 0) (hrow.alloc o) (hm.alloc o))
  · rw [List.mem_append, List.mem_singleton]
    by_cases e : u = v
    · subst e
      exact ⟨fun _ => .inr rfl, fun _ => has_put_same h.map.isMap (by trivial) _⟩
    · rw [has_put_other (fun e2 => e (keyL_inj e2))]
      rw [h.keys u]
      exact ⟨.inl, fun h2 => h2.resolve_right e⟩
end
def RetSea (R : List RulD) (n : Nat) (u : ByteArray) (w : World) (e : Ending) (w' : World) : Prop := ∃ (mv : Value) (S : List ByteArray) (aS : Option Addr) (cS : Nat), (S.Nodup ∧ 0 < S.length ∧ nthS S 0 = u ∧ ∀ v, v ∈ S ↔ ReachL R n u.data.toList v.data.toList) ∧
  e = .returned (.tuple #[mv, .slice aS S.length cS]) ∧ w'.ownsRow w.heap.size 9 1 (.slice aS S.length cS) S.length (strVals S) ∧ Below w.heap.size w w'
set_option maxRecDepth 100000 in
set_option maxHeartbeats 8000000 in
theorem search_any (kn : Nat) (R : List RulD) (a : Option Addr) (cap : Nat) (ub : ByteArray) (n : Nat) (w : World) (hl : RulesIn w a R) (hc : ComplP (kn : Int) R) (hu : wordOkB (kn : Int) ub = true) (hun : ub.size ≤ n) (hn : n ≤ 8) :
    Calls Tryz.prog 20 #[.agg #[.int .i64 (kn : Int), .slice a R.length cap], .string ub, .int .i64 (n : Nat)] w (RetSea R n ub w) := by
  have hmm := @run_makeMap Tryz.prog
  have hk4 : kn ≤ 4 := by have := hc.1.1.1.1; omega
  have h12 : R.length ≤ 12 := hc.1.1.1.2
  have h8 : ∀ r ∈ R, r.1.size ≤ 8 ∧ r.2.size ≤ 8 := fun r hr => (hc.1.1.2 r hr).1.2
  have HLS := Lib.hid (fun v W (h : RulesIn W a R) (hv : v.size ≤ 8) => links_any (kn : Int) R a cap v n W h h8 h12 hv hn)
  have HLK := Lib.hid (fun v i p bb W (h : RulesIn W a R) hi hp (hv : v.size ≤ 8) => link_any (kn : Int) R a cap v i p bb W h h8 hi hp hv)
  have HFEW : Hid (∀ S j t, SeaP R n ub S j t → S.length ≤ (up kn n).length) := Lib.hid (fun S j t h => h.few hc (by omega) hu hun hk4)
  have HWD : Hid (∀ S j t, SeaP R n ub S j t → ∀ v ∈ S, v.size ≤ 8) := Lib.hid (fun S j t h v hv => by have := (h.word hc (by omega) hu hun hv).2; omega)
  have hul : (up kn n).length ≤ 589824 := by have := up_len hk4 n hn; omega
  have hu8 : ub.size ≤ 8 := by omega
  have HUN := Lib.hid hun
  have HKY := Lib.hid (fun (v : ByteArray) (hv : v.size ≤ 16) => keyOkG v (by unfold maxLen; omega))
  have hk0 := HKY.out ub (by omega)
  have HB := Lib.hid (alloc_belowS w (.cells #[.int .i64 (kn : Int), .slice a R.length cap] 25))
  have HX : Hid (∀ W, Below (w.alloc (.cells #[.int .i64 (kn : Int), .slice a R.length cap] 25)).heap.size (w.alloc (.cells #[.int .i64 (kn : Int), .slice a R.length cap] 25)) W → (W.cell? ⟨w.heap.size, 0, none⟩ = some (.int .i64 (kn : Int)) ∧ W.cell? ⟨w.heap.size, 1, none⟩ = some (.slice a R.length cap)) ∧ RulesIn W a R) := Lib.hid (fun W hW => ⟨⟨by rw [hW.cell (by simp)]; simp, by rw [hW.cell (by simp)]; simp⟩, (hl.later HB.out).later hW⟩)
  have hgt : w.heap.size < (w.alloc (.cells #[.int .i64 (kn : Int), .slice a R.length cap] 25)).heap.size := by simp
  have HLK3 : Hid (∀ x : ByteArray, x.size ≤ 8 → (linksF R n x).length ≤ 300) := Lib.hid (fun x hx => by
    have := lk_room (R := R) h12 (n := n) (w0 := x) (p := x.size + 1) (i := 0) (j := 0) (by omega) (Nat.zero_le _) (Nat.zero_le _)
    rw [st3_zero, st2_zero] at this
    exact this)
  clear hl hc hu hun h8 h12
  go_enter Tryz.func20, Tryz.ntmps20
  go_upto_region 1 with fail
  generalize w.alloc (.cells #[.int .i64 (kn : Int), .slice a R.length cap] 25) = w1 at *
  go_wp2_with (first
    | (refine wpList_insert_ownG _ rfl _ _ _ 51 rfl 9 85 keySG Tryz.underlying51 arrR w1.heap.size 0 (.map []) rfl (World.ownsMap_made _ _ _ _) (by decide) _ _ _ rfl rfl hk0 _ [] (arr_mk ⟨#[45]⟩ 0 0 false 0) ?_; intro w2 hown2 hgr2)
    | go_in)
  have HB2 : Hid (Below w1.heap.size w1 w2) := Lib.hid ((alloc_belowS w1 (.map #[] 0)).grown hgr2 (by simp) (fun j hj => by cases hj; exact Nat.le_refl _))
  have h21 := HB2.out.size
  have HST : Hid (SeaSt w1 (w2.alloc (.cells #[.string ub] 9)) w1.heap.size (DataW.put (.map []) (keyL ub) (.lit (.bool true))) (.slice (some ⟨w2.heap.size, 0, none⟩) 1 1) [ub]) := Lib.hid ⟨HB2.out.alloc h21 _, World.ownsRow_lit w2 (base := w1.heap.size) #[.string ub] 1 h21 (by unfold maxLen; omega) (by simp), hown2.alloc _, Nat.le_refl _, fun v => by
    rw [List.mem_singleton]
    by_cases e : v = ub
    · subst e
      exact ⟨fun _ => rfl, fun _ => has_put_same ⟨_, rfl⟩ (by trivial) _⟩
    · rw [has_put_other (fun e2 => e (keyL_inj e2))]
      exact ⟨fun h => (by cases h), fun h => absurd h e⟩⟩
  have HP0 := Lib.hid (SeaP.start R n ub)
  clear hown2 hgr2 hk0
  obtain ⟨b, hb⟩ : ∃ b, w1.heap.size = b := ⟨_, rfl⟩
  rw [hb] at HST
  have HBQ := Lib.hid hb
  rw [hb]
  clear hb
  go_wp2_with fail
  go_loopw [9, 10] (fun vq c wr => ∃ (S : List ByteArray) (D : DataW Unit) (j : Nat), j ≤ S.length ∧ c = .int .i64 (j : Nat) ∧ Hid (SeaSt w1 wr b D vq S) ∧ Hid (SeaP R n ub S j 0)) (fun _ c _ => (up kn n).length - (intOf c).toNat)
  case atStart => exact ⟨[ub], _, 0, Nat.zero_le _, rfl, HST, HP0⟩
  case round =>
    clear HST HP0 HB2 h21
    obtain ⟨S, D, j, hj, rfl, HS, HP⟩ := hrel
    obtain ⟨aq, cq, rfl⟩ := owns_form HS.out.row
    have hSU := HFEW.out S j 0 HP.out
    obtain ⟨⟨s0, s1⟩, hRr⟩ := HX.out wr HS.out.below
    by_cases hlt : j < S.length
    · obtain ⟨x, hx⟩ : ∃ x, nthS S j = x := ⟨_, rfl⟩
      obtain ⟨bq, oq, rfl, hbq, hcq⟩ := (owns_strs HS.out.row).cell hlt
      have y0 := hcq j hlt
      rw [hx] at y0
      have HXE : Hid (nthS S j = x ∧ j < S.length) := Lib.hid ⟨hx, hlt⟩
      have hx8 : x.size ≤ 8 := by rw [← hx]; exact HWD.out S j 0 HP.out _ (mem_nthS hlt)
      have hjl : (j : Int) < (S.length : Int) := by omega
      clear hcq hx hRr
      go_upto_region 6 with fail
      refine region_each (fun W => Below wr.heap.size wr W) (fun W W2 => Below W.heap.size W W2) (fun u => by simp only [fPut, Act.put, List.setIfInBounds_toArray, List.set_cons_succ, List.set_cons_zero, Nat.zero_add, Nat.reduceAdd]; rfl) (by kernel_rfl) (by kernel_rfl) (by kernel_rfl) (Below.drew (Below.refl _ _)) ?_
      apply each_read (fun _ => Below.refl _ _) rfl
      · intro u wv hC hf
        obtain ⟨⟨s0, s1⟩, hRW⟩ := HX.out wv (Below.now HS.out.below hC)
        have y1 := (hC.cell (World.block_lt_of_cell? _ _ y0)).trans y0
        clear hf
        go_simp
        try rfl
      apply each_read (fun _ => Below.refl _ _) rfl
      · intro u wv hC hf
        obtain ⟨⟨s0, s1⟩, hRW⟩ := HX.out wv (Below.now HS.out.below hC)
        have y1 := (hC.cell (World.block_lt_of_cell? _ _ y0)).trans y0
        clear hf
        go_simp
        try rfl
      apply each_read (fun _ => Below.refl _ _) rfl
      · intro u wv hC hf
        obtain ⟨⟨s0, s1⟩, hRW⟩ := HX.out wv (Below.now HS.out.below hC)
        have y1 := (hC.cell (World.block_lt_of_cell? _ _ y0)).trans y0
        clear hf
        go_simp
        try rfl
      apply each_read (fun _ => Below.refl _ _) rfl
      · intro u wv hC hf
        obtain ⟨⟨s0, s1⟩, hRW⟩ := HX.out wv (Below.now HS.out.below hC)
        have y1 := (hC.cell (World.block_lt_of_cell? _ _ y0)).trans y0
        obtain ⟨d1_0, d2_1, -⟩ := hf
        have e1 : u 1 = _ := d1_0 rfl
        clear d1_0
        have e2 : u 2 = _ := d2_1 rfl
        clear d2_1
        go_simp
        try rfl
      apply each_read (fun _ => Below.refl _ _) rfl
      · intro u wv hC hf
        obtain ⟨⟨s0, s1⟩, hRW⟩ := HX.out wv (Below.now HS.out.below hC)
        have y1 := (hC.cell (World.block_lt_of_cell? _ _ y0)).trans y0
        obtain ⟨d3_0, -⟩ := hf
        have e3 : u 3 = _ := d3_0 rfl
        clear d3_0
        go_simp
        try rfl
      apply each_read (fun _ => Below.refl _ _) rfl
      · intro u wv hC hf
        obtain ⟨⟨s0, s1⟩, hRW⟩ := HX.out wv (Below.now HS.out.below hC)
        have y1 := (hC.cell (World.block_lt_of_cell? _ _ y0)).trans y0
        clear hf
        go_simp
        try rfl
      refine each_call (fun v wv => ∃ al cl, v = .slice al (linksF R n x).length cl ∧ wv.ownsRow wr.heap.size 83 3 (.slice al (linksF R n x).length cl) (linksF R n x).length (cellsL lkV (linksF R n x))) (fun v W W2 _ hR ⟨al, cl, h1, h2⟩ => ⟨al, cl, h1, owns_later h2 hR⟩) rfl ?_ ?_
      · intro u wv hC hf
        obtain ⟨⟨s0, s1⟩, hRW⟩ := HX.out wv (Below.now HS.out.below hC)
        have y1 := (hC.cell (World.block_lt_of_cell? _ _ y0)).trans y0
        obtain ⟨d0_0, d4_1, d5_2, -⟩ := hf
        have e0 : u 0 = _ := d0_0 rfl
        clear d0_0
        have e4 : u 4 = _ := d4_1 rfl
        clear d4_1
        have e5 : u 5 = _ := d5_2 rfl
        clear d5_2
        apply Exists.intro; apply Exists.intro; apply And.intro
        · go_simp; exact ⟨rfl, rfl⟩
        · refine (HLS.out x wv hRW hx8).mono ?_
          rintro e wx ⟨al, cl, rfl, ho, hb⟩
          exact ⟨_, rfl, Below.now hC hb, hb, al, cl, rfl, owns_mono ho hC.size⟩
      apply each_read (fun _ => Below.refl _ _) rfl
      · intro u wv hC hf
        obtain ⟨⟨s0, s1⟩, hRW⟩ := HX.out wv (Below.now HS.out.below hC)
        have y1 := (hC.cell (World.block_lt_of_cell? _ _ y0)).trans y0
        obtain ⟨d6_0, -⟩ := hf
        obtain ⟨aL, cL, e6, hL6⟩ := d6_0 rfl
        go_simp
        try rfl
      apply each_read (fun _ => Below.refl _ _) rfl
      · intro u wv hC hf
        obtain ⟨⟨s0, s1⟩, hRW⟩ := HX.out wv (Below.now HS.out.below hC)
        have y1 := (hC.cell (World.block_lt_of_cell? _ _ y0)).trans y0
        clear hf
        go_simp
        try rfl
      intro u wv hC hall
      obtain ⟨a0, a1, a2, a3, a4, a5, a6, a7, a8, -⟩ := hall
      have e0 : u 0 = _ := a0
      clear a0
      have e1 : u 1 = _ := a1
      clear a1
      have e2 : u 2 = _ := a2
      clear a2
      have e3 : u 3 = _ := a3
      clear a3
      have e4 : u 4 = _ := a4
      clear a4
      have e5 : u 5 = _ := a5
      clear a5
      obtain ⟨aL, cL, e6, hL6⟩ := a6
      replace e6 : u 6 = _ := e6
      have e7 : u 7 = _ := a7
      clear a7
      have e8 : u 8 = _ := a8
      clear a8
      simp only [e0, e1, e2, e3, e4, e5, e6, e7, e8]
      clear e0 e1 e2 e3 e4 e5 e6 e7 e8
      have HS6 := Lib.hid (HS.out.later hC)
      have HLR : Hid (wv.ownsRow w1.heap.size 83 3 (.slice aL (linksF R n x).length cL) (linksF R n x).length (cellsL lkV (linksF R n x))) := Lib.hid (owns_mono hL6 HS.out.below.size)
      have hl300 : (linksF R n x).length ≤ 300 := by
        exact HLK3.out x hx8
      clear hC hL6 s0 s1 y0 HS
      go_wp2_with fail
      generalize hW : wr = wr0 at *
      clear hW
      go_loopw [9, 37] (fun vq c wr => ∃ (S2 : List ByteArray) (D2 : DataW Unit) (t : Nat), t ≤ (linksF R n x).length ∧ c = .int .i64 (t : Nat) ∧ Hid (SeaSt w1 wr b D2 vq S2) ∧ Hid (SeaP R n ub S2 j t) ∧ Hid (nthS S2 j = x ∧ j < S2.length) ∧ Hid (wr.ownsRow w1.heap.size 83 3 (.slice aL (linksF R n x).length cL) (linksF R n x).length (cellsL lkV (linksF R n x)))) (fun _ c _ => (linksF R n x).length - (intOf c).toNat)
      case atStart => exact ⟨S, D, 0, Nat.zero_le _, rfl, HS6, HP, HXE, HLR⟩
      case round =>
        clear HS6 HP HXE HLR hSU
        obtain ⟨S2, D2, t, ht, rfl, HS, HP, HXE, HLR⟩ := hrel
        obtain ⟨aq, cq, rfl⟩ := owns_form HS.out.row
        obtain ⟨⟨s0, s1⟩, hRr⟩ := HX.out wr HS.out.below
        have hSU := HFEW.out S2 j t HP.out
        by_cases hlt2 : t < (linksF R n x).length
        · obtain ⟨i, p, bb, hz⟩ : ∃ i p bb, (linksF R n x)[t] = (i, p, bb) := ⟨_, _, _, rfl⟩
          obtain ⟨m1, m2, m3⟩ := mem_links.1 (List.getElem_mem hlt2)
          rw [hz] at m1 m2 m3
          obtain ⟨gL, oL, rfl, hgL, hcL⟩ := RowsIn.cell lkV_len (by omega) (owns_rows HLR.out) hlt2
          have c0 := hcL t hlt2 0 (.int .i64 (i : Nat)) (by rw [hz]; rfl)
          have c1 := hcL t hlt2 1 (.int .i64 (p : Nat)) (by rw [hz]; rfl)
          have c2 := hcL t hlt2 2 (.bool bb) (by rw [hz]; rfl)
          rw [Nat.add_zero] at c0
          obtain ⟨y, hy⟩ : ∃ y, lkW R x i p bb = y := ⟨_, rfl⟩
          have HYT : Hid (lkT R x (linksF R n x)[t] = y) := Lib.hid (by rw [hz]; exact hy)
          have hy8 : y.size ≤ 8 := by
            have h3 := m3
            unfold lkOk at h3
            rw [Bool.and_eq_true, decide_eq_true_eq] at h3
            have := h3.2
            rw [hy] at this
            omega
          have HLX : Hid (∀ W, RulesIn W a R → Calls Tryz.prog 44 #[.agg #[.int .i64 (kn : Int), .slice a R.length cap], .string x, .agg #[.int .i64 (i : Nat), .int .i64 (p : Nat), .bool bb]] W fun e w' => e = .returned (.tuple #[.string y, .bool (lkB R x i p bb)]) ∧ Below W.heap.size W w') := Lib.hid (fun W hW => by
            have := HLK.out x i p bb W hW m2 m1 hx8
            rw [hy] at this
            exact this)
          have hky := HKY.out y (by omega)
          have htl : (t : Int) < ((linksF R n x).length : Int) := by omega
          clear hcL hz m1 m2 m3 hy hRr
          go_upto_region 9 with fail
          clear c0 c1 c2
          have HY8 : Hid (∀ W, Below (wr.alloc (.cells #[.int .i64 (i : Nat), .int .i64 (p : Nat), .bool bb] 83)).heap.size (wr.alloc (.cells #[.int .i64 (i : Nat), .int .i64 (p : Nat), .bool bb] 83)) W → W.cell? ⟨wr.heap.size, 0, none⟩ = some (.int .i64 (i : Nat)) ∧ W.cell? ⟨wr.heap.size, 1, none⟩ = some (.int .i64 (p : Nat)) ∧ W.cell? ⟨wr.heap.size, 2, none⟩ = some (.bool bb)) := Lib.hid (fun W hW => ⟨by rw [hW.cell (by simp)]; simp, by rw [hW.cell (by simp)]; simp, by rw [hW.cell (by simp)]; simp⟩)
          have HS8 := Lib.hid (HS.out.later (alloc_belowS wr (.cells #[.int .i64 (i : Nat), .int .i64 (p : Nat), .bool bb] 83)))
          have HL8 := Lib.hid (owns_later HLR.out (alloc_belowS wr (.cells #[.int .i64 (i : Nat), .int .i64 (p : Nat), .bool bb] 83)))
          generalize hg8 : wr.heap.size = g8 at *
          clear hg8 HS HLR
          generalize wr.alloc (.cells #[.int .i64 (i : Nat), .int .i64 (p : Nat), .bool bb] 83) = w8 at *
          obtain ⟨bq, oq, rfl, hbq, hcq⟩ := (owns_strs HS8.out.row).cell HXE.out.2
          have y0 := hcq j HXE.out.2
          rw [HXE.out.1] at y0
          have hjl : (j : Int) < (S2.length : Int) := by have := HXE.out.2; omega
          clear hcq s0 s1
          refine region_each (fun W => Below w8.heap.size w8 W) (fun W W2 => Below W.heap.size W W2) (fun u => by simp only [fPut, Act.put, List.setIfInBounds_toArray, List.set_cons_succ, List.set_cons_zero, Nat.zero_add, Nat.reduceAdd]; rfl) (by kernel_rfl) (by kernel_rfl) (by kernel_rfl) (Below.drew (Below.refl _ _)) ?_
          apply each_read (fun _ => Below.refl _ _) rfl
          · intro u wv hC hf
            obtain ⟨⟨s0, s1⟩, hRW⟩ := HX.out wv (Below.now HS8.out.below hC)
            have y1 := (hC.cell (World.block_lt_of_cell? _ _ y0)).trans y0
            obtain ⟨x0, x1, x2⟩ := HY8.out wv hC
            clear hf
            go_simp
            try rfl
          apply each_read (fun _ => Below.refl _ _) rfl
          · intro u wv hC hf
            obtain ⟨⟨s0, s1⟩, hRW⟩ := HX.out wv (Below.now HS8.out.below hC)
            have y1 := (hC.cell (World.block_lt_of_cell? _ _ y0)).trans y0
            obtain ⟨x0, x1, x2⟩ := HY8.out wv hC
            clear hf
            go_simp
            try rfl
          conv => arg 8; simp only [List.cons_append, List.nil_append]
          apply each_read (fun _ => Below.refl _ _) rfl
          · intro u wv hC hf
            obtain ⟨⟨s0, s1⟩, hRW⟩ := HX.out wv (Below.now HS8.out.below hC)
            have y1 := (hC.cell (World.block_lt_of_cell? _ _ y0)).trans y0
            obtain ⟨x0, x1, x2⟩ := HY8.out wv hC
            clear hf
            go_simp
            try rfl
          conv => arg 8; simp only [List.cons_append, List.nil_append]
          apply each_read (fun _ => Below.refl _ _) rfl
          · intro u wv hC hf
            obtain ⟨⟨s0, s1⟩, hRW⟩ := HX.out wv (Below.now HS8.out.below hC)
            have y1 := (hC.cell (World.block_lt_of_cell? _ _ y0)).trans y0
            obtain ⟨x0, x1, x2⟩ := HY8.out wv hC
            obtain ⟨d1_0, d2_1, -⟩ := hf
            have e1 : u 1 = _ := d1_0 rfl
            clear d1_0
            have e2 : u 2 = _ := d2_1 rfl
            clear d2_1
            go_simp
            try rfl
          conv => arg 8; simp only [List.cons_append, List.nil_append]
          apply each_read (fun _ => Below.refl _ _) rfl
          · intro u wv hC hf
            obtain ⟨⟨s0, s1⟩, hRW⟩ := HX.out wv (Below.now HS8.out.below hC)
            have y1 := (hC.cell (World.block_lt_of_cell? _ _ y0)).trans y0
            obtain ⟨x0, x1, x2⟩ := HY8.out wv hC
            obtain ⟨d3_0, -⟩ := hf
            have e3 : u 3 = _ := d3_0 rfl
            clear d3_0
            go_simp
            try rfl
          conv => arg 8; simp only [List.cons_append, List.nil_append]
          apply each_read (fun _ => Below.refl _ _) rfl
          · intro u wv hC hf
            obtain ⟨⟨s0, s1⟩, hRW⟩ := HX.out wv (Below.now HS8.out.below hC)
            have y1 := (hC.cell (World.block_lt_of_cell? _ _ y0)).trans y0
            obtain ⟨x0, x1, x2⟩ := HY8.out wv hC
            clear hf
            go_simp
            try rfl
          conv => arg 8; simp only [List.cons_append, List.nil_append]
          apply each_callR rfl
          · intro u wv hC hf
            obtain ⟨⟨s0, s1⟩, hRW⟩ := HX.out wv (Below.now HS8.out.below hC)
            have y1 := (hC.cell (World.block_lt_of_cell? _ _ y0)).trans y0
            obtain ⟨x0, x1, x2⟩ := HY8.out wv hC
            obtain ⟨d0_0, d4_1, d5_2, -⟩ := hf
            have e0 : u 0 = _ := d0_0 rfl
            clear d0_0
            have e4 : u 4 = _ := d4_1 rfl
            clear d4_1
            have e5 : u 5 = _ := d5_2 rfl
            clear d5_2
            apply Exists.intro; apply Exists.intro; apply And.intro
            · go_simp; exact ⟨rfl, rfl⟩
            · refine (HLX.out wv hRW).mono ?_
              rintro e wx ⟨rfl, hb⟩
              exact ⟨rfl, Below.now hC hb, hb⟩
          conv => arg 8; simp only [List.cons_append, List.nil_append]
          apply each_read (fun _ => Below.refl _ _) rfl
          · intro u wv hC hf
            obtain ⟨⟨s0, s1⟩, hRW⟩ := HX.out wv (Below.now HS8.out.below hC)
            have y1 := (hC.cell (World.block_lt_of_cell? _ _ y0)).trans y0
            obtain ⟨x0, x1, x2⟩ := HY8.out wv hC
            obtain ⟨d6_0, -⟩ := hf
            have e6 : u 6 = _ := d6_0 rfl
            clear d6_0
            go_simp
            try rfl
          conv => arg 8; simp only [List.cons_append, List.nil_append]
          apply each_read (fun _ => Below.refl _ _) rfl
          · intro u wv hC hf
            obtain ⟨⟨s0, s1⟩, hRW⟩ := HX.out wv (Below.now HS8.out.below hC)
            have y1 := (hC.cell (World.block_lt_of_cell? _ _ y0)).trans y0
            obtain ⟨x0, x1, x2⟩ := HY8.out wv hC
            obtain ⟨d7_0, -⟩ := hf
            have e7 : u 7 = _ := d7_0 rfl
            clear d7_0
            go_simp
            try rfl
          conv => arg 8; simp only [List.cons_append, List.nil_append]
          apply each_read (fun _ => Below.refl _ _) rfl
          · intro u wv hC hf
            obtain ⟨⟨s0, s1⟩, hRW⟩ := HX.out wv (Below.now HS8.out.below hC)
            have y1 := (hC.cell (World.block_lt_of_cell? _ _ y0)).trans y0
            obtain ⟨x0, x1, x2⟩ := HY8.out wv hC
            obtain ⟨d7_0, d10_1, -⟩ := hf
            have e7 : u 7 = _ := d7_0 rfl
            clear d7_0
            clear d10_1
            go_simp
            try rfl
          conv => arg 8; simp only [List.cons_append, List.nil_append]
          apply each_read (fun _ => Below.refl _ _) rfl
          · intro u wv hC hf
            obtain ⟨⟨s0, s1⟩, hRW⟩ := HX.out wv (Below.now HS8.out.below hC)
            have y1 := (hC.cell (World.block_lt_of_cell? _ _ y0)).trans y0
            obtain ⟨x0, x1, x2⟩ := HY8.out wv hC
            obtain ⟨d8_0, d6_1, d0_2, d1_3, d2_4, d3_5, d4_6, d5_7, d6_8, d7_9, d8_10, d9_11, -⟩ := hf
            have e8 : u 8 = _ := d8_0 rfl
            clear d8_0
            have e6 : u 6 = _ := d6_1 rfl
            clear d6_1
            have e0 : u 0 = _ := d0_2 rfl
            clear d0_2
            have e1 : u 1 = _ := d1_3 rfl
            clear d1_3
            have e2 : u 2 = _ := d2_4 rfl
            clear d2_4
            have e3 : u 3 = _ := d3_5 rfl
            clear d3_5
            have e4 : u 4 = _ := d4_6 rfl
            clear d4_6
            have e5 : u 5 = _ := d5_7 rfl
            clear d5_7
            clear d6_8
            have e7 : u 7 = _ := d7_9 rfl
            clear d7_9
            clear d8_10
            clear d9_11
            go_simp
            try rfl
          conv => arg 8; simp only [List.cons_append, List.nil_append]
          apply each_read (fun _ => Below.refl _ _) rfl
          · intro u wv hC hf
            obtain ⟨⟨s0, s1⟩, hRW⟩ := HX.out wv (Below.now HS8.out.below hC)
            have y1 := (hC.cell (World.block_lt_of_cell? _ _ y0)).trans y0
            obtain ⟨x0, x1, x2⟩ := HY8.out wv hC
            obtain ⟨d9_0, d10_1, d0_2, d1_3, d2_4, d3_5, d4_6, d5_7, d6_8, d7_9, d8_10, d9_11, d10_12, -⟩ := hf
            have e9 : u 9 = _ := d9_0 rfl
            clear d9_0
            have e10 : u 10 = _ := d10_1 rfl
            clear d10_1
            have e0 : u 0 = _ := d0_2 rfl
            clear d0_2
            have e1 : u 1 = _ := d1_3 rfl
            clear d1_3
            have e2 : u 2 = _ := d2_4 rfl
            clear d2_4
            have e3 : u 3 = _ := d3_5 rfl
            clear d3_5
            have e4 : u 4 = _ := d4_6 rfl
            clear d4_6
            have e5 : u 5 = _ := d5_7 rfl
            clear d5_7
            have e6 : u 6 = _ := d6_8 rfl
            clear d6_8
            have e7 : u 7 = _ := d7_9 rfl
            clear d7_9
            have e8 : u 8 = _ := d8_10 rfl
            clear d8_10
            clear d9_11
            clear d10_12
            go_simp
            try rfl
          intro u w9 hC hall
          obtain ⟨a0, a1, a2, a3, a4, a5, a6, a7, a8, a9, a10, a11, -⟩ := hall
          have e0 : u 0 = _ := a0
          clear a0
          have e1 : u 1 = _ := a1
          clear a1
          have e2 : u 2 = _ := a2
          clear a2
          have e3 : u 3 = _ := a3
          clear a3
          have e4 : u 4 = _ := a4
          clear a4
          have e5 : u 5 = _ := a5
          clear a5
          have e6 : u 6 = _ := a6
          clear a6
          have e7 : u 7 = _ := a7
          clear a7
          have e8 : u 8 = _ := a8
          clear a8
          have e9 : u 9 = _ := a9
          clear a9
          have e10 : u 10 = _ := a10
          clear a10
          have e11 : u 11 = _ := a11
          clear a11
          simp only [e0, e1, e2, e3, e4, e5, e6, e7, e8, e9, e10, e11]
          clear e0 e1 e2 e3 e4 e5 e6 e7 e8 e9 e10 e11
          have HS9 := Lib.hid (HS8.out.later hC)
          have HL9 := Lib.hid (owns_later HL8.out hC)
          have HY9 := Lib.hid (fun W (hW : Below w9.heap.size w9 W) => HY8.out W (Below.now hC hW))
          have y9 := (hC.cell (World.block_lt_of_cell? _ _ y0)).trans y0
          clear HS8 HL8 HY8 hC y0
          by_cases hyS : y ∈ S2
          · have hh : Maps.has D2 (keyL y) = true := (HS9.out.keys y).2 hyS
            have HP2 := Lib.hid (HP.out.oldX HXE.out.1 hlt2 HYT.out hyS)
            go_wp2_with (first
              | (at_lookup; refine wpList_lookup_arr rfl _ _ 51 rfl 9 85 keySG Tryz.underlying51 (zeroArr _) b _ D2 rfl HS9.out.map _ _ rfl hky ?_; rw [hh]; intro f1 a1 b1 c1 d1; unfold arrV)
              | go_in)
            go_wp2_with fail
            go_roundw
            case rel => exact ⟨S2, D2, t + 1, by omega, by go_num, Lib.hid (HS9.out.later (alloc_belowS _ _)), HP2, HXE, Lib.hid (owns_later HL9.out (alloc_belowS _ _))⟩
            case measure => simp [intOf]; omega
          · have hh : Maps.has D2 (keyL y) = false := by
              cases h : Maps.has D2 (keyL y)
              · rfl
              · exact absurd ((HS9.out.keys y).1 h) hyS
            have HP2 := Lib.hid (HP.out.newX HXE.out.2 HXE.out.1 hlt2 HYT.out hyS)
            have hSU2 := HFEW.out _ _ _ HP2.out
            rw [List.length_append, List.length_singleton] at hSU2
            go_wp2_with (first
              | (at_lookup; refine wpList_lookup_arr rfl _ _ 51 rfl 9 85 keySG Tryz.underlying51 (zeroArr _) b _ D2 rfl HS9.out.map _ _ rfl hky ?_; rw [hh]; intro f1 a1 b1 c1 d1; unfold arrV)
              | go_in)
            go_upto_region 12 with fail
            have HS10 := Lib.hid (HS9.out.later (alloc_belowS w9 (.cells #[.string f1, .int .i64 a1, .int .i64 b1, .bool c1, .int .i64 d1] 85)))
            have HL10 := Lib.hid (owns_later HL9.out (alloc_belowS w9 (.cells #[.string f1, .int .i64 a1, .int .i64 b1, .bool c1, .int .i64 d1] 85)))
            have HB10 := Lib.hid (alloc_belowS w9 (.cells #[.string f1, .int .i64 a1, .int .i64 b1, .bool c1, .int .i64 d1] 85))
            generalize w9.alloc (.cells #[.string f1, .int .i64 a1, .int .i64 b1, .bool c1, .int .i64 d1] 85) = w10 at *
            have y10 := (HB10.out.cell (World.block_lt_of_cell? _ _ y9)).trans y9
            clear HS9 HL9 y9
            have hkx := HKY.out x (by omega)
            refine region_tail 16 (fun W => Below w10.heap.size w10 W) (fun W W2 => Below W.heap.size W W2) (fun u => by simp only [List.take_succ_cons, List.take_zero, fPut, Act.put, List.setIfInBounds_toArray, List.set_cons_succ, List.set_cons_zero, Nat.zero_add, Nat.reduceAdd]; rfl) (by kernel_rfl) (by kernel_rfl) (by kernel_rfl) (by kernel_rfl) (by kernel_rfl) (by kernel_rfl) (by kernel_rfl) (Below.drew (Below.refl _ _)) ?_
            conv => arg 7; simp only [List.take_succ_cons, List.take_zero]
            apply each_read (fun _ => Below.refl _ _) rfl
            · intro u wv hC hf
              have y1 := (hC.cell (World.block_lt_of_cell? _ _ y10)).trans y10
              obtain ⟨x0, x1, x2⟩ := HY9.out wv (Below.now HB10.out hC)
              clear hf
              go_simp
              try rfl
            apply each_read (fun _ => Below.refl _ _) rfl
            · intro u wv hC hf
              have y1 := (hC.cell (World.block_lt_of_cell? _ _ y10)).trans y10
              obtain ⟨x0, x1, x2⟩ := HY9.out wv (Below.now HB10.out hC)
              clear hf
              go_simp
              try rfl
            conv => arg 8; simp only [List.cons_append, List.nil_append]
            apply each_read (fun _ => Below.refl _ _) rfl
            · intro u wv hC hf
              have y1 := (hC.cell (World.block_lt_of_cell? _ _ y10)).trans y10
              obtain ⟨x0, x1, x2⟩ := HY9.out wv (Below.now HB10.out hC)
              clear hf
              go_simp
              try rfl
            conv => arg 8; simp only [List.cons_append, List.nil_append]
            apply each_read (fun _ => Below.refl _ _) rfl
            · intro u wv hC hf
              have y1 := (hC.cell (World.block_lt_of_cell? _ _ y10)).trans y10
              obtain ⟨x0, x1, x2⟩ := HY9.out wv (Below.now HB10.out hC)
              clear hf
              go_simp
              try rfl
            conv => arg 8; simp only [List.cons_append, List.nil_append]
            apply each_read (fun _ => Below.refl _ _) rfl
            · intro u wv hC hf
              have y1 := (hC.cell (World.block_lt_of_cell? _ _ y10)).trans y10
              obtain ⟨x0, x1, x2⟩ := HY9.out wv (Below.now HB10.out hC)
              obtain ⟨d2_0, d3_1, -⟩ := hf
              have e2 : u 2 = _ := d2_0 rfl
              clear d2_0
              have e3 : u 3 = _ := d3_1 rfl
              clear d3_1
              go_simp
              try rfl
            conv => arg 8; simp only [List.cons_append, List.nil_append]
            apply each_read (fun _ => Below.refl _ _) rfl
            · intro u wv hC hf
              have y1 := (hC.cell (World.block_lt_of_cell? _ _ y10)).trans y10
              obtain ⟨x0, x1, x2⟩ := HY9.out wv (Below.now HB10.out hC)
              obtain ⟨d4_0, -⟩ := hf
              have e4 : u 4 = _ := d4_0 rfl
              clear d4_0
              go_simp
              try rfl
            conv => arg 8; simp only [List.cons_append, List.nil_append]
            apply each_read (fun _ => Below.refl _ _) rfl
            · intro u wv hC hf
              have y1 := (hC.cell (World.block_lt_of_cell? _ _ y10)).trans y10
              obtain ⟨x0, x1, x2⟩ := HY9.out wv (Below.now HB10.out hC)
              clear hf
              go_simp
              try rfl
            conv => arg 8; simp only [List.cons_append, List.nil_append]
            apply each_read (fun _ => Below.refl _ _) rfl
            · intro u wv hC hf
              have y1 := (hC.cell (World.block_lt_of_cell? _ _ y10)).trans y10
              obtain ⟨x0, x1, x2⟩ := HY9.out wv (Below.now HB10.out hC)
              clear hf
              go_simp
              try rfl
            conv => arg 8; simp only [List.cons_append, List.nil_append]
            apply each_read (fun _ => Below.refl _ _) rfl
            · intro u wv hC hf
              have y1 := (hC.cell (World.block_lt_of_cell? _ _ y10)).trans y10
              obtain ⟨x0, x1, x2⟩ := HY9.out wv (Below.now HB10.out hC)
              clear hf
              go_simp
              try rfl
            conv => arg 8; simp only [List.cons_append, List.nil_append]
            apply each_read (fun _ => Below.refl _ _) rfl
            · intro u wv hC hf
              have y1 := (hC.cell (World.block_lt_of_cell? _ _ y10)).trans y10
              obtain ⟨x0, x1, x2⟩ := HY9.out wv (Below.now HB10.out hC)
              clear hf
              go_simp
              try rfl
            conv => arg 8; simp only [List.cons_append, List.nil_append]
            apply each_read (fun _ => Below.refl _ _) rfl
            · intro u wv hC hf
              have y1 := (hC.cell (World.block_lt_of_cell? _ _ y10)).trans y10
              obtain ⟨x0, x1, x2⟩ := HY9.out wv (Below.now HB10.out hC)
              obtain ⟨d8_0, d9_1, -⟩ := hf
              have e8 : u 8 = _ := d8_0 rfl
              clear d8_0
              have e9 : u 9 = _ := d9_1 rfl
              clear d9_1
              go_simp
              try rfl
            conv => arg 8; simp only [List.cons_append, List.nil_append]
            apply each_read (fun _ => Below.refl _ _) rfl
            · intro u wv hC hf
              have y1 := (hC.cell (World.block_lt_of_cell? _ _ y10)).trans y10
              obtain ⟨x0, x1, x2⟩ := HY9.out wv (Below.now HB10.out hC)
              obtain ⟨d10_0, -⟩ := hf
              have e10 : u 10 = _ := d10_0 rfl
              clear d10_0
              go_simp
              try rfl
            conv => arg 8; simp only [List.cons_append, List.nil_append]
            refine each_do (fun v wv => ∃ (f : ByteArray) (a1 b1 : Int) (c1 : Bool) (d : Int), v = arrV f a1 b1 c1 d) (fun v w w2 _ hR h => h) rfl ?_ ?_
            · intro u wv hC hf
              have y1 := (hC.cell (World.block_lt_of_cell? _ _ y10)).trans y10
              obtain ⟨x0, x1, x2⟩ := HY9.out wv (Below.now HB10.out hC)
              obtain ⟨d7_0, d11_1, -⟩ := hf
              have e7 : u 7 = _ := d7_0 rfl
              clear d7_0
              have e11 : u 11 = _ := d11_1 rfl
              clear d11_1
              obtain ⟨v12, ps12, hrun, hv12⟩ := (HS10.out.later hC).map.lookup keySG Tryz.underlying51 (zeroArr _) (arr_mk _ _ _ _ _) hkx
              obtain ⟨f, a1, b1, c1, d, rfl⟩ := arr_inv hv12
              refine ⟨_, wv, ?_, hC, Below.refl _ _, f, a1, b1, c1, d, rfl⟩
              go_simp
              try rfl
            conv => arg 8; simp only [List.cons_append, List.nil_append]
            refine each_do (fun v wv => ∃ d : Int, v = .int .i64 d) (fun v w w2 _ hR h => h) rfl ?_ ?_
            · intro u wv hC hf
              have y1 := (hC.cell (World.block_lt_of_cell? _ _ y10)).trans y10
              obtain ⟨x0, x1, x2⟩ := HY9.out wv (Below.now HB10.out hC)
              obtain ⟨d12_0, -⟩ := hf
              obtain ⟨f12, a12, b12, c12, d12, e12⟩ := d12_0 rfl
              refine ⟨.int .i64 d12, wv, ?_, hC, Below.refl _ _, d12, rfl⟩
              unfold arrV at e12
              go_simp
              try rfl
            conv => arg 8; simp only [List.cons_append, List.nil_append]
            refine each_do (fun v wv => ∃ d : Int, v = .int .i64 d) (fun v w w2 _ hR h => h) rfl ?_ ?_
            · intro u wv hC hf
              have y1 := (hC.cell (World.block_lt_of_cell? _ _ y10)).trans y10
              obtain ⟨x0, x1, x2⟩ := HY9.out wv (Below.now HB10.out hC)
              obtain ⟨d13_0, -⟩ := hf
              obtain ⟨d13, e13⟩ := d13_0 rfl
              refine ⟨.int .i64 (IntKind.i64.wrap (d13 + 1)), wv, ?_, hC, Below.refl _ _, _, rfl⟩
              go_simp
              try rfl
            conv => arg 8; simp only [List.cons_append, List.nil_append]
            refine each_do (fun v wv => ∃ d : Int, v = arrV x (i : Nat) (p : Nat) bb d) (fun v w w2 _ hR h => h) rfl ?_ ?_
            · intro u wv hC hf
              have y1 := (hC.cell (World.block_lt_of_cell? _ _ y10)).trans y10
              obtain ⟨x0, x1, x2⟩ := HY9.out wv (Below.now HB10.out hC)
              obtain ⟨d5_0, d6_1, d14_2, -⟩ := hf
              have e5 : u 5 = _ := d5_0 rfl
              clear d5_0
              have e6 : u 6 = _ := d6_1 rfl
              clear d6_1
              obtain ⟨d14, e14⟩ := d14_2 rfl
              refine ⟨arrV x (i : Nat) (p : Nat) bb d14, wv, ?_, hC, Below.refl _ _, d14, rfl⟩
              unfold arrV
              go_simp
              try rfl
            intro u w11 hC hall
            obtain ⟨a0, a1, a2, a3, a4, a5, a6, a7, a8, a9, a10, a11, a12, a13, a14, a15, -⟩ := hall
            have e0 : u 0 = _ := a0
            clear a0
            have e1 : u 1 = _ := a1
            clear a1
            have e2 : u 2 = _ := a2
            clear a2
            have e3 : u 3 = _ := a3
            clear a3
            have e4 : u 4 = _ := a4
            clear a4
            have e5 : u 5 = _ := a5
            clear a5
            have e6 : u 6 = _ := a6
            clear a6
            have e7 : u 7 = _ := a7
            clear a7
            have e8 : u 8 = _ := a8
            clear a8
            have e9 : u 9 = _ := a9
            clear a9
            have e10 : u 10 = _ := a10
            clear a10
            have e11 : u 11 = _ := a11
            clear a11
            obtain ⟨f12, a12, b12, c12, d12, e12⟩ := a12
            replace e12 : u 12 = _ := e12
            obtain ⟨d13, e13⟩ := a13
            replace e13 : u 13 = _ := e13
            obtain ⟨d14, e14⟩ := a14
            replace e14 : u 14 = _ := e14
            obtain ⟨d15, e15⟩ := a15
            replace e15 : u 15 = _ := e15
            change wpList _ _ _ (List.drop 16 _) _ _
            simp only [List.drop_succ_cons, List.drop_zero]
            simp only [e0, e1, e2, e3, e4, e5, e6, e7, e8, e9, e10, e11, e12, e13, e14, e15]
            clear e0 e1 e2 e3 e4 e5 e6 e7 e8 e9 e10 e11 e12 e13 e14 e15
            have HS11 := Lib.hid (HS10.out.later hC)
            have HL11 := Lib.hid (owns_later HL10.out hC)
            have hsz : S2.length < maxLen := by unfold maxLen; omega
            clear hC HS10 HL10
            unfold arrV
            go_wp2_with (first
              | (at_mapUpdate; (refine wpList_mapUpdate_own _ rfl _ _ _ 51 rfl 9 85 keySG Tryz.underlying51 arrR b _ D2 rfl HS11.out.map hsz _ _ _ rfl rfl hky _ [] (arr_mk x (i : Nat) (p : Nat) bb d15) ?_))
              | go_in)
            intro w12 hown12 hgr12
            have HM12 := Lib.hid hown12
            have HG12 := Lib.hid hgr12
            have HR12 : Hid (w12.ownsRow w1.heap.size 9 1 (.slice (some ⟨bq, oq, none⟩) S2.length cq) S2.length (strVals S2)) := Lib.hid (HS11.out.row.kept hgr12 (by
              cases e : (Value.slice (some ⟨bq, oq, none⟩) S2.length cq).ownBlock with
              | none => exact .inl rfl
              | some k => exact .inr (fun e2 => row_map (base2 := 0) HS11.out.row HS11.out.map (by rw [e, e2]))))
            have HL12 : Hid (w12.ownsRow w1.heap.size 83 3 (.slice (some ⟨gL, oL, none⟩) (linksF R n x).length cL) (linksF R n x).length (cellsL lkV (linksF R n x))) := Lib.hid (HL11.out.kept hgr12 (by
              cases e : (Value.slice (some ⟨gL, oL, none⟩) (linksF R n x).length cL).ownBlock with
              | none => exact .inl rfl
              | some k => exact .inr (fun e2 => row_map (base2 := 0) HL11.out HS11.out.map (by rw [e, e2]))))
            have hws : w1.heap.size ≤ w12.heap.size := Nat.le_trans HS11.out.below.size hgr12.size
            clear hown12 hgr12 HL11
            go_wp2_with (at_builtin; refine wpList_appB rfl (.tmp 75) (.tmp 77) rfl Tryz.underlying32 Tryz.infoStr rfl (by decide) rfl (HR12.out.alloc (.cells #[.string y] 9)) ?g6 (m := 1) (news := [.string y]) rfl ?g8 rfl (by decide) ?g11 ?g12 ?g13 ?_)
            case g6 => simp; omega
            case g8 =>
              intro j2 u2 hu2
              match j2, hu2 with
              | 0, hu2 =>
                obtain rfl := Option.some.inj hu2
                rw [add_off, Nat.zero_add]
                simp
              | j2 + 1, hu2 => cases hu2
            case g11 => intro u2 hu2; rw [List.mem_singleton.1 hu2]; rfl
            case g12 => unfold maxLen; omega
            case g13 => omega
            intro g4 c4 w13 ho4 hg4 _
            have HS13 := Lib.hid (HS11.out.put (v := y) HM12.out HG12.out ho4 hg4)
            have HL13 : Hid (w13.ownsRow w1.heap.size 83 3 (.slice (some ⟨gL, oL, none⟩) (linksF R n x).length cL) (linksF R n x).length (cellsL lkV (linksF R n x))) := Lib.hid ((HL12.out.alloc (.cells #[.string y] 9)).kept hg4 (row_row (base2 := w1.heap.size) (HL12.out.alloc (.cells #[.string y] 9)) (HR12.out.alloc (.cells #[.string y] 9)) (by decide)))
            clear ho4 hg4 HS11 HM12 HG12 HR12 HL12
            go_wp2_with fail
            go_roundw
            case rel => exact ⟨S2 ++ [y], _, t + 1, by omega, by go_num, HS13, HP2, Lib.hid ⟨by rw [nthS_app HXE.out.2]; exact HXE.out.1, by rw [List.length_append]; have := HXE.out.2; omega⟩, HL13⟩
            case measure => simp [intOf]; omega
        · have HP2 := Lib.hid (HP.out.nextX HXE.out.1 (by omega : t = (linksF R n x).length))
          have hj2 := HXE.out.2
          clear hRr
          go_wp2_with fail
          go_roundw
          case rel => exact ⟨S2, D2, j + 1, by omega, by go_num, HS, HP2⟩
          case measure => simp [intOf]; omega
    · obtain rfl : j = S.length := by omega
      have F : Hid (RetSea R n ub w (.returned (.tuple #[.map (some b), .slice aq S.length cq])) wr) := Lib.hid ⟨_, S, aq, cq, ⟨HP.out.nd, HP.out.pos, HP.out.fst, fun v => HP.out.done v HUN.out⟩, rfl, owns_mono HS.out.row (Nat.le_of_lt hgt), Below.now HB.out HS.out.below⟩
      clear hRr
      go_wp2_with fail
      refine bodyPost_ret (v := .tuple #[.map (some b), .slice aq S.length cq]) ?_ rfl F.out
      simp [results, Tryz.results20, go_sem]
end Go.Proofs.YtgoeadgpbidgiaaGreat
