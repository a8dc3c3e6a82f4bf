/-
  Related elements and the group with an idempotent, of the program.
-/
import Derived.Test.YtngbimgabcacpaaGreatGro33
import Derived.Test.YtngbimgabcacpaaGreatGro24
import Derived.Test.YtngbimgabcacpaaGreatGro13
import Derived.Test.YtngbimgabcacpaaGreatGro25
import Derived.Test.YtngbimgabcacpaaGreatGro02
namespace Go.Proofs.YtngbimgabcacpaaGreat
open Go.RowKit
set_option linter.unusedVariables false
theorem Tryz.infoInts : (Tryz.prog.info? 23).map (fun i => (i.zero, i.size, i.bytes)) = some (some (.slice none 0 0), 1, 24) := by kernel_rfl
theorem box1_cells {W : World} {b : Nat} {x : Value} {T : TypeId} (h : W.heap[b]? = some (.cells #[x] T (0, 0))) : W.cell? ⟨b, 0, none⟩ = some x ∧ W.frozen? ⟨b, 0, none⟩ = false := ⟨by simp [World.cell?, h], by simp [World.frozen?, h]⟩
/-- rows of integers in memory of the call's own -/
def RowsAt (wr : World) (g : Nat) (key : Nat → List Int) (vals : List Value) : Prop :=
  ∀ j, j < vals.length → ∃ a cap, vals[j]? = some (.slice a (key j).length cap) ∧ wr.ownsRow (g + 1) 3 1 (.slice a (key j).length cap) (key j).length (intVals (key j))
/-- the captured slice at block g since w: its c elements are the keys -/
structure KeyS (w wr : World) (g : Nat) (v : Value) (c : Nat) (key : Nat → List Int) (vals : List Value) : Prop where
  blk : wr.heap[g]? = some (.cells #[v] 60 (0, 0))
  own : wr.ownsRow (g + 1) 23 1 v c vals
  rows : RowsAt wr g key vals
  le : w.heap.size ≤ g
  below : Below w.heap.size w wr
section
variable {w wr : World} {g : Nat} {v : Value} {c : Nat} {key : Nat → List Int} {vals : List Value}
theorem KeyS.facts (h : KeyS w wr g v c key vals) : wr.cell? ⟨g, 0, none⟩ = some v ∧ wr.frozen? ⟨g, 0, none⟩ = false := box1_cells h.blk
theorem KeyS.lt (h : KeyS w wr g v c key vals) : g < wr.heap.size := (Array.getElem?_eq_some_iff.1 h.blk).1
theorem KeyS.len (h : KeyS w wr g v c key vals) : vals.length = c := by have := h.own.1; omega
theorem RowsAt.later {w' : World} (h : RowsAt wr g key vals) (hb : Below wr.heap.size wr w') : RowsAt w' g key vals := fun j hj => by
  obtain ⟨a, cap, h1, h2⟩ := h j hj
  exact ⟨a, cap, h1, owns_later h2 hb⟩
theorem KeyS.later {w' : World} (h : KeyS w wr g v c key vals) (hb : Below wr.heap.size wr w') : KeyS w w' g v c key vals :=
  ⟨(hb.block g h.lt).trans h.blk, owns_later h.own hb, h.rows.later hb, h.le, Below.now h.below hb⟩
theorem KeyS.far (h : KeyS w wr g v c key vals) : v.ownBlock ≠ some g := fun e => by have := (h.own.lt g e).1; omega
theorem KeyS.start {w1 : World} (hb : Below w.heap.size w w1) (key : Nat → List Int) : KeyS w (w1.alloc (.cells #[.slice none 0 0] 60)) w1.heap.size (.slice none 0 0) 0 key [] :=
  ⟨alloc_at _ _, World.ownsRow_nil _ _ _ _, fun j hj => absurd hj (Nat.not_lt_zero _), hb.size, hb.alloc hb.size _⟩
/-- the box, once the slice has been appended to -/
theorem KeyS.grown {w2 w4 : World} {ob : Obj} (h : KeyS w wr g v c key vals) (hb : Below wr.heap.size wr w2) (hg : (w2.alloc ob).grownBy w4 v.ownBlock) : w4.heap[g]? = some (.cells #[v] 60 (0, 0)) := by
  have h2 := h.later (hb.alloc hb.size ob)
  exact (hg.block g h2.lt (fun e => h.far e.symm)).trans h2.blk
theorem row_apart {W : World} {base : Nat} {a : Option Addr} {n cap m k : Nat} {x : Value} {xs ys : List Value} (h1 : W.ownsRow base 23 1 x m xs) (h2 : W.ownsRow base 3 1 (.slice a n cap) k ys) : ∀ b, x.ownBlock = some b → (Value.slice a n cap).ownBlock ≠ some b := fun b hb e => by
  obtain ⟨ax, cx, rfl⟩ := owns_form h1
  cases ax with
  | none => simp [Value.ownBlock] at hb
  | some p =>
    cases a with
    | none => simp [Value.ownBlock] at e
    | some q =>
      simp only [Value.ownBlock, Option.some.injEq] at hb e
      rcases h1.2 with ⟨hv, _⟩ | ⟨g1, c1, cur1, hv1, _, hg1, _⟩
      · simp at hv
      rcases h2.2 with ⟨hv, _⟩ | ⟨g2, c2, cur2, hv2, _, hg2, _⟩
      · simp at hv
      simp only [Value.slice.injEq, Option.some.injEq] at hv1 hv2
      obtain ⟨rfl, _, _⟩ := hv1
      obtain ⟨rfl, _, _⟩ := hv2
      simp only at hb e
      subst hb
      subst e
      rw [hg1] at hg2
      simp at hg2
/-- a key more -/
theorem KeyS.put {w2 w4 : World} {ob : Obj} {v' : Value} {a : Option Addr} {cap : Nat} (h : KeyS w wr g v c key vals) (hb : Below wr.heap.size wr w2) (hr : w2.ownsRow (g + 1) 3 1 (.slice a (key c).length cap) (key c).length (intVals (key c)))
    (hg : (w2.alloc ob).grownBy w4 v.ownBlock) (hn : w4.ownsRow (g + 1) 23 1 v' (c + 1) (vals ++ [.slice a (key c).length cap])) : KeyS w (w4.setCell ⟨g, 0, none⟩ v') g v' (c + 1) key (vals ++ [.slice a (key c).length cap]) := by
  have hal : Below w2.heap.size w2 (w2.alloc ob) := (Below.refl _ _).alloc (Nat.le_refl _) _
  have h2 := h.later (Below.now hb hal)
  have h4 := h.grown hb hg
  have b4 : Below w.heap.size w w4 := h2.below.grown hg h2.below.size (fun k hk => by have := (h.own.lt k hk).1; have := h.le; omega)
  have keep : ∀ {a : Option Addr} {n cap : Nat} {ys : List Value}, (w2.alloc ob).ownsRow (g + 1) 3 1 (.slice a n cap) n ys → (w4.setCell ⟨g, 0, none⟩ v').ownsRow (g + 1) 3 1 (.slice a n cap) n ys := fun {a n cap ys} hy => by
    refine ownsRow_setCell_below (hy.kept hg ?_) (by show g < g + 1; omega) _
    cases hv : (Value.slice a n cap).ownBlock with
    | none => exact .inl rfl
    | some k => exact .inr fun e => row_apart h2.own hy k e.symm hv
  refine ⟨?_, ownsRow_setCell_below hn (by show g < g + 1; omega) _, fun j hj => ?_, h.le, b4.setCell h.le _⟩
  · unfold World.setCell
    simp [Array.getElem?_modify, h4]
  · have hl := h.len
    rw [List.length_append, List.length_singleton] at hj
    by_cases e : j = vals.length
    · subst e
      rw [hl]
      refine ⟨a, cap, ?_, keep (owns_later hr hal)⟩
      rw [List.getElem?_append_right (by omega)]
      simp [hl]
    · obtain ⟨a', cap', e1, e2⟩ := h2.rows j (by omega)
      refine ⟨a', cap', ?_, keep e2⟩
      rw [List.getElem?_append_left (by omega)]
      exact e1
/-- the key of an element, in all later worlds -/
theorem KeyS.at (h : KeyS w wr g v c key vals) {j : Nat} (hj : j < c) : ∃ b a cap, v = .slice (some ⟨b, 0, none⟩) c cap ∧ ∃ ca, ∀ W, Below wr.heap.size wr W → W.cell? ⟨g, 0, none⟩ = some v ∧ W.cell? ⟨b, j, none⟩ = some (.slice a (key j).length ca) ∧ IntsIn W a (key j) := by
  have hl := h.len
  obtain ⟨a, ca, e1, e2⟩ := h.rows j (by omega)
  rcases h.own.2 with ⟨_, h0⟩ | ⟨b, cap, cur, hv, _, _, _⟩
  · omega
  refine ⟨b, a, cap, hv, ca, fun W hW => ⟨(hW.cell (World.block_lt_of_cell? _ _ h.facts.1)).trans h.facts.1, ?_, (owns_ints (l := key j) e2).later hW⟩⟩
  have h1 : wr.cell? ⟨b, j, none⟩ = some (.slice a (key j).length ca) := by
    have hw := h.own
    rw [hv] at hw
    rw [hw.cellAt j (by omega)]
    exact e1
  exact (hW.cell (World.block_lt_of_cell? _ _ h1)).trans h1
end
end Go.Proofs.YtngbimgabcacpaaGreat
namespace Go.Proofs.YtngbimgabcacpaaGreat
open Go.RowKit
set_option linter.unusedVariables false
theorem eqInts_any (xs ys : List Int) (ax ay : Option Addr) (cx cy : Nat) (w : World) (hx : IntsIn w ax xs) (hy : IntsIn w ay ys) (hxl : xs.length ≤ 2 ^ 47) (hyl : ys.length ≤ 2 ^ 47) :
    Calls Tryz.prog 56 #[.slice ax xs.length cx, .slice ay ys.length cy] w fun e w' => e = .returned (.bool (decide (xs = ys))) ∧ Below w.heap.size w w' := by
  by_cases hn : xs.length = ys.length
  · by_cases h0 : xs.length = 0
    · have e1 : xs = [] := List.eq_nil_of_length_eq_zero h0
      have e2 : ys = [] := List.eq_nil_of_length_eq_zero (by omega)
      subst e1 e2
      refine (Tryz.slices_Equal_int_empty ax ay cx 0 cy w (by omega)).mono ?_
      rintro e w' ⟨rfl, rfl⟩
      exact ⟨rfl, Below.refl _ _⟩
    · obtain ⟨b1, o1, rfl, _, hc1⟩ := hx.cell (i := 0) (by omega)
      obtain ⟨b2, o2, rfl, _, hc2⟩ := hy.cell (i := 0) (by omega)
      refine (Tryz.slices_Equal_int b1 o1 xs.length cx b2 o2 ys.length cy xs ys w (Nat.le_refl _) (Nat.le_refl _) (by omega) (by omega) (fun j hj => hc1 j hj) (fun j hj => hc2 j hj)).mono ?_
      rintro e w' ⟨rfl, q, rfl⟩
      rw [List.take_length, List.take_length]
      exact ⟨ret_bool (by rw [Bool.eq_iff_iff]; simp), below_drewN (Below.refl _ _) _⟩
  · refine (Tryz.slices_Equal_int_lens ax ay xs.length cx ys.length cy w hn).mono ?_
    rintro e w' ⟨rfl, rfl⟩
    refine ⟨?_, Below.refl _ _⟩
    rw [decide_eq_false (fun h => hn (by rw [h]))]
/-- what the program's ClassesOf hands back -/
def RetCls (n : Int) (l : List Int) (kind : Int) (w : World) (e : Ending) (w' : World) : Prop :=
  RetSl 3 1 (clzF n l kind).length (intVals (clzF n l kind)) w e w' ∧ ((tabB n l && inB kind 1 4) = false → e = .returned (.slice none 0 0))
theorem keyK_len (m : Nat) (ln : List Nat) (kind : Int) (i : Nat) : (keyK m ln kind i).length ≤ 2 * m + 1 := by
  have h1 := idLs_len (m := m) (ln := ln) 1 i
  have h2 := idLs_len (m := m) (ln := ln) 2 i
  have h3 := idLs_len (m := m) (ln := ln) kind i
  unfold keyK
  split
  · simp only [List.length_append, List.length_singleton]; omega
  · omega
set_option maxHeartbeats 1000000 in
theorem classesIn_pred (m : Nat) (ln : List Nat) (kind : Int) (g : Nat) (v : Value) (vals : List Value) (w0 w : World) (hm : m ≤ 40) (h : KeyS w0 w g v m (keyK m ln kind) vals) :
    PredEl2 w.heap.size 55 #[.pointer (some ⟨g, 0, none⟩)] (relK m ln kind) m w := by
  intro i k hi hk W hW
  obtain ⟨b, a1, cap, hv, c1, h1⟩ := h.at hi
  obtain ⟨b2, a2, cap2, hv2, c2, h2⟩ := h.at hk
  have e := hv.symm.trans hv2
  simp only [Value.slice.injEq, Option.some.injEq, Addr.mk.injEq, and_true, true_and] at e
  obtain ⟨rfl, rfl⟩ := e
  subst hv
  clear hv2
  have k0 : ∀ x, (wide W x).cell? ⟨g, 0, none⟩ = some (.slice (some ⟨b, 0, none⟩) m cap) := wide_cell (h1 W hW).1
  have k1 : ∀ x, (wide W x).cell? ⟨b, i, none⟩ = some (.slice a1 (keyK m ln kind i).length c1) := wide_cell (h1 W hW).2.1
  have k2 : ∀ x, (wide W x).cell? ⟨b, k, none⟩ = some (.slice a2 (keyK m ln kind k).length c2) := wide_cell (h2 W hW).2.1
  have q1 := keyK_len m ln kind i
  have q2 := keyK_len m ln kind k
  have HE : Hid (∀ x, Calls Tryz.prog 56 #[.slice a1 (keyK m ln kind i).length c1, .slice a2 (keyK m ln kind k).length c2] (wide W x) fun e w' => e = .returned (.bool (relK m ln kind i k)) ∧ Below (wide W x).heap.size (wide W x) w') := Lib.hid (fun x => by
    have := eqInts_any _ _ a1 a2 c1 c2 (wide W x) ((h1 W hW).2.2.later (below_wide _ _)) ((h2 W hW).2.2.later (below_wide _ _)) (by omega) (by omega)
    rw [← relK_key] at this
    exact this)
  generalize keyK m ln kind i = L1 at *
  generalize keyK m ln kind k = L2 at *
  generalize relK m ln kind i k = r at *
  clear h1 h2 h hW
  go_enter Tryz.func55, Tryz.ntmps55
  go_wp2_with fail
  refine region_wide (by kernel_rfl) (by kernel_rfl) ?_
  repeat (quiet_step ((go_at_call 56; refine (HE.out _).mono ?_; rintro e w2 ⟨rfl, hb2⟩; exact ⟨rfl, wide_next hb2⟩)))
  refine wpQuiet_nil ?_
  rintro w4 ⟨x4, rfl⟩
  clear k0 k1 k2
  go_wp2_with fail
  go_ret
  exact ⟨rfl, below_wide _ _⟩
set_option maxRecDepth 100000 in
set_option maxHeartbeats 4000000 in
theorem implClassesOf_ne (n : Int) (l : List Int) (a : Option Addr) (cap : Nat) (kind : Int) (w : World) (hl : IntsIn w a l) (hlen : l.length ≤ 2 ^ 47) (h4 : kind ≠ 4) :
    Calls Tryz.prog 24 #[.agg #[.int .i64 n, .slice a l.length cap], .int .i64 kind] w (RetCls n l kind w) := by
  have HL := Lib.hid hl
  have HB1 := Lib.hid (alloc_belI w (.cells #[.int .i64 n, .slice a l.length cap] 25))
  have HX : Hid (∀ W, Below (w.alloc (.cells #[.int .i64 n, .slice a l.length cap] 25)).heap.size (w.alloc (.cells #[.int .i64 n, .slice a l.length cap] 25)) W → W.cell? ⟨w.heap.size, 0, none⟩ = some (.int .i64 n) ∧ W.cell? ⟨w.heap.size, 1, none⟩ = some (.slice a l.length cap)) := Lib.hid (fun W hW => ⟨by rw [hW.cell (by simp)]; simp, by rw [hW.cell (by simp)]; simp⟩)
  have HTO := Lib.hid (fun W (h : IntsIn W a l) => implTableOk_any n l a cap W h hlen)
  have HIN := Lib.hid (fun W => within_any kind 1 4 W)
  have e4 : (kind == 4) = false := by simpa using h4
  clear hl
  cases ht : tabB n l
  · have F : Hid (∀ w', Below w.heap.size w w' → RetCls n l kind w (.returned (.slice none 0 0)) w') := Lib.hid (fun w' hb => ⟨by rw [clzF_no1 ht]; exact retSl_nil _ _ _ hb, fun _ => rfl⟩)
    rw [ht] at HTO
    clear ht
    go_enter Tryz.func24, Tryz.ntmps24
    go_wp2_with fail
    refine (HTO.out _ (HL.out.later HB1.out)).mono ?_
    rintro e w2 ⟨rfl, hb2⟩
    have HB2 := Lib.hid (Below.now HB1.out hb2)
    clear hb2
    go_wp2_with fail
    go_ret
    exact F.out _ HB2.out
  cases hk : inB kind 1 4
  · have F : Hid (∀ w', Below w.heap.size w w' → RetCls n l kind w (.returned (.slice none 0 0)) w') := Lib.hid (fun w' hb => ⟨by rw [clzF_no2 hk]; exact retSl_nil _ _ _ hb, fun _ => rfl⟩)
    rw [ht] at HTO
    rw [hk] at HIN
    clear ht hk
    go_enter Tryz.func24, Tryz.ntmps24
    go_wp2_with fail
    refine (HTO.out _ (HL.out.later HB1.out)).mono ?_
    rintro e w2 ⟨rfl, hb2⟩
    have HB2 := Lib.hid (Below.now HB1.out hb2)
    clear hb2
    go_wp2_with fail
    refine (HIN.out _).mono ?_
    rintro e w3 ⟨rfl, rfl⟩
    go_wp2_with fail
    go_ret
    exact F.out _ HB2.out
  obtain ⟨m, ln, rfl, hlm, hT⟩ := tabOk_out ht
  have hm0 := hT.lo
  have hm1 := hT.hi
  have HF : Hid (clzF (m : Nat) l kind = numO (relK m ln kind) m) := Lib.hid (by rw [hlm] at ht ⊢; exact clzF_yes ht hk)
  have HLL : Hid (l.length = m * m) := Lib.hid (by rw [hlm, List.length_map]; exact hT.len)
  have HKE : Hid (∀ i, keyK m ln kind i = idLs m ln kind i) := Lib.hid (fun i => by unfold keyK; rw [if_neg h4])
  have HID : Hid (∀ i W, i < m → IntsIn W a l → Calls Tryz.prog 53 #[.agg #[.int .i64 (m : Nat), .slice a l.length cap], .int .i64 (i : Nat), .int .i64 kind] W (RetSl 3 1 (keyK m ln kind i).length (intVals (keyK m ln kind i)) W)) := Lib.hid (fun i W hi h => by
    rw [HKE.out]
    exact implIdeal_any m ln a l.length cap i kind W (by unfold NatsIn; rw [← hlm]; exact h) hT.toTb HLL.out hi)
  have HPR := Lib.hid (fun g v vals w0 W (h : KeyS w0 W g v m (keyK m ln kind) vals) => classesIn_pred m ln kind g v vals w0 W hm1 h)
  rw [ht] at HTO
  rw [hk] at HIN
  have HYES : Hid (∀ e w', RetSl 3 1 (numO (relK m ln kind) m).length (intVals (numO (relK m ln kind) m)) w e w' → RetCls (m : Nat) l kind w e w') := Lib.hid (fun e w' h => ⟨by rw [HF.out]; exact h, fun h2 => by rw [ht, hk] at h2; cases h2⟩)
  clear ht hk hT hlm h4 HKE
  generalize relK m ln kind = p at *
  generalize keyK m ln kind = key at *
  go_enter Tryz.func24, Tryz.ntmps24
  go_wp2_with fail
  generalize w.alloc (.cells #[.int .i64 (m : Nat), .slice a l.length cap] 25) = w1 at *
  refine (HTO.out _ (HL.out.later HB1.out)).mono ?_
  rintro e w2 ⟨rfl, hb2⟩
  have HB2 := Lib.hid hb2
  clear hb2
  go_wp2_with fail
  refine (HIN.out _).mono ?_
  rintro e w3 ⟨rfl, rfl⟩
  have HS := Lib.hid (KeyS.start (w := w2) (Below.refl _ _) key)
  obtain ⟨z0, z1⟩ := HX.out _ (Below.now HB2.out (alloc_belI w2 (.cells #[.slice none 0 0] 60)))
  clear HTO HIN
  go_wp2_with fail
  clear z0 z1
  have HG0 : Hid (w2.heap.size = w2.heap.size) := Lib.hid rfl
  generalize w2.alloc (.cells #[.slice none 0 0] 60) = w4 at *
  generalize hg : w2.heap.size = g at *
  have HG := Lib.hid hg
  clear hg HG0
  go_loopw [17] (fun i' wr => ∃ c : Nat, c ≤ m ∧ i' = .int .i64 c ∧ Hid (∃ v vals, KeyS w2 wr g v c key vals)) (fun i' _ => m - (intOf i').toNat)
  case atStart => exact ⟨0, Nat.zero_le _, rfl, Lib.hid ⟨_, _, HS.out⟩⟩
  case round =>
    clear HS
    obtain ⟨c, hcm, rfl, HK⟩ := hrel
    obtain ⟨v, vals, hks⟩ := HK.out
    have HKS := Lib.hid hks
    have hbw := Lib.hid (Below.now HB2.out hks.below)
    obtain ⟨z0, z1⟩ := HX.out _ hbw.out
    obtain ⟨y0, f0⟩ := hks.facts
    clear hks
    by_cases hlt : c < m
    · have N1 : Hid (c + 1 ≤ maxLen) := Lib.hid (by unfold maxLen; omega)
      have N2 : Hid ((c + 1) * 24 ≤ 140737488355328) := Lib.hid (by omega)
      have hone : ∀ (x : Option Addr) (n k : Nat), ∀ u ∈ [Value.slice x n k], u.oneCell' = true := fun x n k u hu => by rw [List.mem_singleton.1 hu]; rfl
      have HI := Lib.hid (fun W h => HID.out c W hlt h)
      have hgz := Lib.hid HKS.out.lt
      generalize hkc : key c = kc at HI
      have HKC := Lib.hid hkc
      clear hkc
      have kr := Below.refl wr.heap.size wr
      go_wp2_with fail
      go_region_law (first
        | (go_simp; go_at_call 53; refine (HI.out _ (HL.out.later (Below.now HB1.out (Below.now hbw.out (by repeat (first | exact kr | refine Below.drew ?_ | refine below_drewN ?_ _)))))).mono ?_; rintro e w7 ⟨a7, c7, rfl, ho7, hb7⟩; replace kr : Below wr.heap.size wr w7 := Below.now (by repeat (first | exact kr | refine Below.drew ?_ | refine below_drewN ?_ _)) hb7; have HR7 : Hid (w7.ownsRow (g + 1) 3 1 (.slice a7 kc.length c7) kc.length (intVals kc)) := Lib.hid (owns_mono ho7 (Nat.le_trans hgz.out (by simp))); have HK7 := Lib.hid (HKS.out.later kr); have q0 := HK7.out.facts.1; have q2 : ∀ ob, (w7.alloc ob).cell? ⟨g, 0, none⟩ = some v := fun ob => (HK7.out.later (alloc_belI w7 ob)).facts.1; obtain ⟨s0, s1⟩ := HX.out w7 (Below.now hbw.out kr); clear hb7 ho7)
        | (refine step_appH rfl (.tmp 34) (.tmp 39) (by rfl) Tryz.underlying60 Tryz.infoInts rfl (by decide) (by rfl) HK7.out.own HK7.out.lt (by rfl) (by rfl) (hone _ _ _) N1.out N2.out ?_; intro g4 c4 w9 hn9 hg9; have P9 := Lib.hid (HKS.out.put (cap := c7) kr (by rw [HKC.out]; exact HR7.out) hg9 (by rw [HKC.out]; exact hn9)); obtain ⟨q1, q3⟩ := box1_cells (HKS.out.grown kr hg9); clear hn9 hg9))
      all_goals
        have F : Hid (∃ v vals, KeyS w2 (w9.setCell ⟨g, 0, none⟩ (.slice (some ⟨g4, 0, none⟩) (c + 1) c4)) g v (c + 1) key vals) := Lib.hid ⟨_, _, P9.out⟩
        clear q0 q1 q2 q3 s0 s1 z0 z1 y0 f0
        go_wp2_with fail
        go_roundw
        case rel => exact ⟨c + 1, by omega, by go_num, F⟩
        case measure => simp [intOf]; omega
    · obtain rfl : c = m := by omega
      have HNU := Lib.hid (numbered_any wr.heap.size 55 #[.pointer (some ⟨g, 0, none⟩)] p c wr (by omega) (HPR.out g v vals w2 wr HKS.out) (Nat.le_refl _) (enters_of Tryz.func55 (by kernel_rfl) rfl))
      have HBE := Lib.hid (Below.now HB1.out hbw.out)
      go_wp2_with fail
      refine HNU.out.mono ?_
      rintro e w5 ⟨a5, c5, rfl, ho5, hb5⟩
      have F : Hid (RetSl 3 1 (numO p c).length (intVals (numO p c)) w (.returned (.slice a5 (numO p c).length c5)) w5) := Lib.hid ⟨_, _, rfl, owns_mono ho5 HBE.out.size, Below.now HBE.out hb5⟩
      clear ho5 hb5 z0 z1 y0 f0
      go_wp2_with fail
      go_ret
      exact HYES.out _ _ F.out
theorem fold_max : ∀ (l : List Int) (z : Int), (l.foldl max z = z ∨ l.foldl max z ∈ l) ∧ z ≤ l.foldl max z ∧ ∀ x ∈ l, x ≤ l.foldl max z
  | [], z => ⟨.inl rfl, Int.le_refl _, fun x hx => by cases hx⟩
  | y :: l, z => by
    obtain ⟨h1, h2, h3⟩ := fold_max l (max z y)
    simp only [List.foldl_cons]
    refine ⟨?_, by omega, fun x hx => ?_⟩
    · rcases h1 with h1 | h1
      · rw [h1]
        by_cases h : z ≤ y
        · right; rw [show max z y = y by omega]; simp
        · left; omega
      · right; exact List.mem_cons_of_mem _ h1
    · rcases List.mem_cons.1 hx with rfl | hx
      · omega
      · exact h3 x hx
theorem cntF_maxOf {l : List Int} (h0 : 0 < l.length) (hn : ∀ x ∈ l, 0 ≤ x) : cntF l = Go.Lib.maxOf l + 1 := by
  cases l with
  | nil => simp at h0
  | cons z l =>
    obtain ⟨h1, h2, h3⟩ := fold_max l (max z z)
    have e : Go.Lib.maxOf (z :: l) = l.foldl max (max z z) := rfl
    rw [e]
    have hzz : max z z = z := by omega
    rw [hzz] at h1 h2 h3 ⊢
    refine cntF_max ?_ ?_ ?_
    · rcases h1 with h1 | h1
      · rw [h1]; simp
      · exact List.mem_cons_of_mem _ h1
    · intro x hx
      rcases List.mem_cons.1 hx with rfl | hx
      · exact h2
      · exact h3 x hx
    · have := hn z (by simp); omega
theorem eql_slice_nilI {P : Program} (w : World) {t e : TypeId} (a : Option Addr) (l c : Nat) (h : P.underlying t = some (.slice e)) : (binOp .eql t (.slice a l c) (.slice none 0 0)).run P w = .ok (.bool a.isNone) w := by
  simp only [binOp]
  simp [Op.equal, Op.maxDepth, Lib.run_equalIn_slice_nil w 9999 t e a l c 0 0 h]
set_option maxHeartbeats 1000000 in
theorem implCountClasses_of (n : Int) (l : List Int) (a : Option Addr) (cap : Nat) (kind : Int) (w : World) (hl : IntsIn w a l)
    (hC : ∀ W, IntsIn W a l → Calls Tryz.prog 24 #[.agg #[.int .i64 n, .slice a l.length cap], .int .i64 kind] W (RetCls n l kind W)) :
    Calls Tryz.prog 19 #[.agg #[.int .i64 n, .slice a l.length cap], .int .i64 kind] w fun e w' => e = .returned (.int .i64 (cntF (clzF n l kind))) ∧ Below w.heap.size w w' := by
  have HC := Lib.hid hC
  have HL := Lib.hid hl
  have HB1 := Lib.hid (alloc_belI w (.cells #[.int .i64 n, .slice a l.length cap] 25))
  have q22 : ∀ (w : World) (a : Option Addr) (n c : Nat), (binOp .eql 23 (.slice a n c) (.slice none 0 0)).run Tryz.prog w = .ok (.bool a.isNone) w := fun w a n c => eql_slice_nilI w a n c Tryz.underlying23
  have hsm : Hid (∀ x ∈ clzF n l kind, 0 ≤ x ∧ x < 40) := Lib.hid (fun x h => clzF_small h)
  have hcl := clzF_len n l kind
  clear hl hC
  by_cases hv : (tabB n l && inB kind 1 4) = false
  · have hz : clzF n l kind = [] := by
      unfold clzF; rw [if_neg (by rw [hv]; simp)]
    have F : Hid (cntF (clzF n l kind) = 0) := Lib.hid (by rw [hz]; rfl)
    have HV := Lib.hid hv
    clear hv hz hsm hcl
    go_enter Tryz.func19, Tryz.ntmps19
    go_wp2_with fail
    refine (HC.out _ (HL.out.later HB1.out)).mono ?_
    rintro e w2 ⟨⟨a2, c2, _, _, hb2⟩, h2⟩
    obtain rfl := h2 HV.out
    have HB2 := Lib.hid (Below.now HB1.out hb2)
    clear hb2 h2
    go_wp2_with fail
    go_ret
    exact ⟨ret_int F.out.symm, HB2.out⟩
  · have hpos : 0 < (clzF n l kind).length := by
      have h1 : (tabB n l && inB kind 1 4) = true := by simpa using hv
      obtain ⟨ht, hk⟩ : tabB n l = true ∧ inB kind 1 4 = true := by simpa using h1
      obtain ⟨m, ln, rfl, rfl, hT⟩ := tabOk_out ht
      rw [clzF_yes ht hk, numO_len]
      exact hT.lo
    have F := Lib.hid (cntF_maxOf hpos (fun x hx => (hsm.out x hx).1))
    have hmx := (cntF_few (l := clzF n l kind) (n := 40) (fun x hx => (hsm.out x hx).2))
    rw [F.out] at hmx
    have HC2 := Lib.hid (fun W h => (HC.out W h).mono (fun e w' (h : RetCls n l kind W e w') => h.1))
    clear hv hsm HC
    generalize cntF (clzF n l kind) = q at *
    generalize clzF n l kind = z at *
    have HP := Lib.hid hpos
    clear hpos
    go_enter Tryz.func19, Tryz.ntmps19
    go_wp2_with fail
    refine (HC2.out _ (HL.out.later HB1.out)).mono ?_
    rintro e w2 ⟨a2, c2, rfl, ho, hb2⟩
    obtain ⟨g2, c3, hv⟩ := owns_some ho HP.out
    simp only [Value.slice.injEq] at hv
    obtain ⟨rfl, _, rfl⟩ := hv
    have HB2 := Lib.hid (Below.now HB1.out hb2)
    have HM := Lib.hid (Tryz.slices_Max_int g2 0 z.length c2 z w2 HP.out (Nat.le_refl _) (by omega) (fun j hj => by
      rw [Nat.zero_add, World.ownsRow.cellAt ho j (by omega)]
      simp [intVals, List.getD_eq_getElem?_getD, hj]))
    rw [List.take_length] at HM
    have FE := Lib.hid F.out
    clear ho hb2
    generalize Go.Lib.maxOf z = M at *
    go_wp2_with fail
    refine HM.out.mono ?_
    rintro e w3 ⟨rfl, rfl⟩
    go_wp2_with fail
    go_ret
    exact ⟨ret_int FE.out.symm, HB2.out⟩
theorem implCountClasses_ne (n : Int) (l : List Int) (a : Option Addr) (cap : Nat) (kind : Int) (w : World) (hl : IntsIn w a l) (hlen : l.length ≤ 2 ^ 47) (h4 : kind ≠ 4) :
    Calls Tryz.prog 19 #[.agg #[.int .i64 n, .slice a l.length cap], .int .i64 kind] w fun e w' => e = .returned (.int .i64 (cntF (clzF n l kind))) ∧ Below w.heap.size w w' :=
  implCountClasses_of n l a cap kind w hl (fun W h => implClassesOf_ne n l a cap kind W h hlen h4)
end Go.Proofs.YtngbimgabcacpaaGreat
namespace Go.Proofs.YtngbimgabcacpaaGreat
open Go.RowKit
set_option linter.unusedVariables false
theorem containsI_any (l : List Int) (a : Option Addr) (cap : Nat) (x : Int) (w : World) (hl : IntsIn w a l) (hlen : l.length ≤ 2 ^ 47) :
    Calls Tryz.prog 41 #[.slice a l.length cap, .int .i64 x] w fun e w' => e = .returned (.bool (decide (x ∈ l))) ∧ w' = w := by
  by_cases h0 : l.length = 0
  · obtain rfl := List.eq_nil_of_length_eq_zero h0
    refine (Tryz.slices_Contains_int_empty a cap x w).mono ?_
    rintro e w' ⟨rfl, rfl⟩
    exact ⟨ret_bool (by simp), rfl⟩
  · obtain ⟨b, off, rfl, _, hc⟩ := hl.cell (i := 0) (by omega)
    refine (Tryz.slices_Contains_int b off l.length cap l x w (Nat.le_refl _) (by omega) (fun j hj => hc j hj)).mono ?_
    rintro e w' ⟨rfl, rfl⟩
    exact ⟨ret_bool (by rw [List.take_length, Bool.eq_iff_iff]; simp), rfl⟩
set_option maxRecDepth 100000 in
set_option maxHeartbeats 2000000 in
theorem implRel_ne (m : Nat) (ln : List Nat) (a : Option Addr) (len cap i k : Nat) (kind : Int) (w : World) (hl : NatsIn w a ln) (hT : Tb m ln) (hlen : len = m * m) (hi : i < m) (hk : k < m) (hne : kind ≠ 4) :
    Calls Tryz.prog 57 #[.agg #[.int .i64 m, .slice a len cap], .int .i64 i, .int .i64 k, .int .i64 kind] w fun e w' => e = .returned (.bool (relK m ln kind i k)) ∧ Below w.heap.size w w' := by
  have hm := hT.hi
  have e4 : (kind == 4) = false := by simpa using hne
  have HR : Hid (relK m ln kind i k = decide (idLs m ln kind i = idLs m ln kind k)) := Lib.hid (relK_not4 hne i k)
  have hb1 := alloc_belI w (.cells #[.int .i64 (m : Nat), .slice a len cap] 25)
  have HX : Hid (∀ W, Below (w.alloc (.cells #[.int .i64 (m : Nat), .slice a len cap] 25)).heap.size (w.alloc (.cells #[.int .i64 (m : Nat), .slice a len cap] 25)) W → W.cell? ⟨w.heap.size, 0, none⟩ = some (.int .i64 (m : Nat)) ∧ W.cell? ⟨w.heap.size, 1, none⟩ = some (.slice a len cap)) := Lib.hid (fun W hW => ⟨by rw [hW.cell (by simp)]; simp, by rw [hW.cell (by simp)]; simp⟩)
  have HB := Lib.hid hb1
  have HN := Lib.hid (hl.later hb1)
  have HI := Lib.hid (fun W (h : NatsIn W a ln) => implIdeal_any m ln a len cap i kind W h hT hlen hi)
  have HK := Lib.hid (fun W (h : NatsIn W a ln) => implIdeal_any m ln a len cap k kind W h hT hlen hk)
  have HSM : Hid (∀ ax ay cx cy W, IntsIn W ax (idLs m ln kind i) → IntsIn W ay (idLs m ln kind k) → Calls Tryz.prog 56 #[.slice ax (idLs m ln kind i).length cx, .slice ay (idLs m ln kind k).length cy] W fun e w' => e = .returned (.bool (relK m ln kind i k)) ∧ Below W.heap.size W w') := Lib.hid (fun ax ay cx cy W h1 h2 => by
    have q1 := idLs_len (m := m) (ln := ln) kind i
    have q2 := idLs_len (m := m) (ln := ln) kind k
    have h := eqInts_any _ _ ax ay cx cy W h1 h2 (by omega) (by omega)
    rw [← HR.out] at h
    exact h)
  clear hl hT hlen hb1 hne HR
  generalize relK m ln kind i k = r at *
  generalize idLs m ln kind i = Li at *
  generalize idLs m ln kind k = Lk at *
  go_enter Tryz.func57, Tryz.ntmps57
  go_wp2_with fail
  generalize w.alloc (.cells #[.int .i64 (m : Nat), .slice a len cap] 25) = w1 at *
  have kr := Below.refl w1.heap.size w1
  obtain ⟨z0, z1⟩ := HX.out _ kr
  go_region_held3 (fun w' => w'.cell? ⟨w.heap.size, 0, none⟩ = some (.int .i64 (m : Nat)) ∧ w'.cell? ⟨w.heap.size, 1, none⟩ = some (.slice a len cap)) (go_keep) (first
    | (go_at_call 53; (with_reducible refine (HI.out _ (HN.out.later (by repeat (first | exact kr | refine Below.drew ?_ | refine below_drewN ?_ _)))).mono ?_); rintro e w3 ⟨xa, ca, rfl, hra, hb3⟩; have LA := Lib.hid (owns_ints (l := Li) hra); clear hra; (try (have q := lb; clear q; replace lb := Below.now (by repeat (first | exact lb | refine Below.drew ?_ | refine below_drewN ?_ _)) hb3)); have la := Below.refl w3.heap.size w3; replace kr : Below w1.heap.size w1 w3 := Below.now (by repeat (first | exact kr | refine Below.drew ?_ | refine below_drewN ?_ _)) hb3; have t0 := (HX.out w3 kr).1; have t1 := (HX.out w3 kr).2; clear hb3)
    | (go_at_call 53; (with_reducible refine (HK.out _ (HN.out.later (by repeat (first | exact kr | refine Below.drew ?_ | refine below_drewN ?_ _)))).mono ?_); rintro e w3 ⟨xb, cb, rfl, hrb, hb3⟩; have LB := Lib.hid (owns_ints (l := Lk) hrb); clear hrb; (try (have q := la; clear q; replace la := Below.now (by repeat (first | exact la | refine Below.drew ?_ | refine below_drewN ?_ _)) hb3)); have lb := Below.refl w3.heap.size w3; replace kr : Below w1.heap.size w1 w3 := Below.now (by repeat (first | exact kr | refine Below.drew ?_ | refine below_drewN ?_ _)) hb3; have t0 := (HX.out w3 kr).1; have t1 := (HX.out w3 kr).2; clear hb3)
    | (go_at_call 56; refine (HSM.out _ _ _ _ _ (LA.out.later (by repeat (first | exact la | refine Below.drew ?_ | refine below_drewN ?_ _))) (LB.out.later (by repeat (first | exact lb | refine Below.drew ?_ | refine below_drewN ?_ _)))).mono ?_; rintro e w3 ⟨rfl, hb3⟩; replace kr : Below w1.heap.size w1 w3 := Below.now (by repeat (first | exact kr | refine Below.drew ?_ | refine below_drewN ?_ _)) hb3; have t0 := (HX.out w3 kr).1; have t1 := (HX.out w3 kr).2; clear hb3))
  all_goals
    go_wp2_with fail
    go_ret
    exact ⟨rfl, Below.now HB.out kr⟩
set_option maxHeartbeats 800000 in
theorem implRelated_any (m : Nat) (ln : List Nat) (a : Option Addr) (len cap i k : Nat) (kind : Int) (w : World) (hl : NatsIn w a ln) (hT : Tb m ln) (hlen : len = m * m) (hi : i < m) (hk : k < m) :
    Calls Tryz.prog 57 #[.agg #[.int .i64 m, .slice a len cap], .int .i64 i, .int .i64 k, .int .i64 kind] w fun e w' => e = .returned (.bool (relK m ln kind i k)) ∧ Below w.heap.size w w' := by
  by_cases h4 : kind = 4
  · subst h4
    have hb1 := alloc_belI w (.cells #[.int .i64 (m : Nat), .slice a len cap] 25)
    have HX : Hid (∀ W, Below (w.alloc (.cells #[.int .i64 (m : Nat), .slice a len cap] 25)).heap.size (w.alloc (.cells #[.int .i64 (m : Nat), .slice a len cap] 25)) W → W.cell? ⟨w.heap.size, 0, none⟩ = some (.int .i64 (m : Nat)) ∧ W.cell? ⟨w.heap.size, 1, none⟩ = some (.slice a len cap)) := Lib.hid (fun W hW => ⟨by rw [hW.cell (by simp)]; simp, by rw [hW.cell (by simp)]; simp⟩)
    have HB := Lib.hid hb1
    have HN := Lib.hid (hl.later hb1)
    have H1 := Lib.hid (fun W (h : NatsIn W a ln) => implRel_ne m ln a len cap i k 1 W h hT hlen hi hk (by omega))
    have H2 := Lib.hid (fun W (h : NatsIn W a ln) => implRel_ne m ln a len cap i k 2 W h hT hlen hi hk (by omega))
    have HR := Lib.hid (relK_four m ln i k)
    clear hl hT hlen hb1
    generalize relK m ln 1 i k = r1 at *
    generalize relK m ln 2 i k = r2 at *
    go_enter Tryz.func57, Tryz.ntmps57
    go_wp2_with fail
    generalize w.alloc (.cells #[.int .i64 (m : Nat), .slice a len cap] 25) = w1 at *
    refine (H1.out _ HN.out).mono ?_
    rintro e w2 ⟨rfl, hb2⟩
    have HB2 := Lib.hid hb2
    obtain ⟨z0, z1⟩ := HX.out _ hb2
    clear hb2
    cases r1
    · go_wp2_with fail
      go_ret
      exact ⟨ret_bool (by rw [HR.out]; rfl), Below.now HB.out HB2.out⟩
    · go_wp2_with fail
      refine (H2.out _ (HN.out.later HB2.out)).mono ?_
      rintro e w3 ⟨rfl, hb3⟩
      have HB3 := Lib.hid (Below.now HB2.out hb3)
      clear hb3 z0 z1
      go_wp2_with fail
      go_ret
      exact ⟨ret_bool (by rw [HR.out]; simp), Below.now HB.out HB3.out⟩
  · exact implRel_ne m ln a len cap i k kind w hl hT hlen hi hk h4
theorem mgF_yes {n : Int} {l : List Int} {e : Int} (h : decide (e ∈ idemF n l) = true) : mgF n l e = thoseL n l (fun i => relK n.toNat (l.map Int.toNat) 4 i e.toNat) := by unfold mgF; rw [h, if_pos rfl]
theorem mgF_no {n : Int} {l : List Int} {e : Int} (h : decide (e ∈ idemF n l) = false) : mgF n l e = [] := by unfold mgF; rw [h]; rfl
theorem idemF_len (n : Int) (l : List Int) : (idemF n l).length ≤ 1000 := thoseL_len _ _ _
end Go.Proofs.YtngbimgabcacpaaGreat
