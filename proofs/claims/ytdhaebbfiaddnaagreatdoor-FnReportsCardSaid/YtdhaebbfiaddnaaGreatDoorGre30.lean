/-
  One row appended to a copy of another, in a region that draws its order.
-/
import Derived.Test.YtdhaebbfiaddnaaGreatDoorGre29
import Derived.Test.YtdhaebbfiaddnaaGreatDoorGre02
import Derived.Test.YtdhaebbfiaddnaaGreatDoorGre04
import Derived.Test.YtdhaebbfiaddnaaGreatDoorGre06
namespace Go.Proofs.YtdhaebbfiaddnaaGreatDoor
open Go.RowKit
set_option linter.unusedVariables false
/-- what LongestReduced is -/
def LngIs (k : Int) (R : List RulD) (h : Int) : Prop := (¬ sysP k R ∧ h = -1) ∨ (sysP k R ∧ HtIs R k.toNat ⟨#[]⟩ h)
theorem LngIs.uniq {k : Int} {R : List RulD} {h h' : Int} (a : LngIs k R h) (b : LngIs k R h') : h = h' := by
  rcases a with ⟨a1, a2⟩ | ⟨a1, a2⟩ <;> rcases b with ⟨b1, b2⟩ | ⟨b1, b2⟩
  · rw [a2, b2]
  · exact absurd b1 a1
  · exact absurd a1 b1
  · exact a2.uniq b2
def RetLg (k : Int) (R : List RulD) (w : World) (e : Ending) (w' : World) : Prop := ∃ h, LngIs k R h ∧ e = .returned (.int .i64 h) ∧ Below w.heap.size w w'
/-- the words of less than j letters -/
def pSum (R : List RulD) (k j : Nat) : Nat := ((List.range j).map fun m => paths R k m ⟨#[]⟩).sum
theorem pSum_succ (R : List RulD) (k j : Nat) : pSum R k (j + 1) = pSum R k j + paths R k j ⟨#[]⟩ := by
  unfold pSum; rw [List.range_succ, List.map_append, List.sum_append]; simp
theorem pSum_mono (R : List RulD) (k : Nat) {i j : Nat} (h : i ≤ j) : pSum R k i ≤ pSum R k j := by
  induction h with
  | refl => exact Nat.le_refl _
  | step _ ih => rw [pSum_succ]; omega
theorem pSum_at (R : List RulD) (k : Nat) {i j : Nat} (h : i < j) : paths R k i ⟨#[]⟩ ≤ pSum R k j := by
  have h1 := pSum_mono R k (show i + 1 ≤ j from h)
  rw [pSum_succ] at h1; omega
theorem pSum_top {R : List RulD} {k n : Nat} (G : SysG R k) (h : HtIs R k ⟨#[]⟩ (n : Int)) : pSum R k (n + 1) ≤ topB := by
  rcases h with ⟨h1, _⟩ | ⟨m, h1, _, h3⟩
  · omega
  · have : m = n := by omega
    subst this
    exact paths_all G h3
/-- what CountAll is -/
def CntIs (k : Int) (R : List RulD) (c : Int) : Prop := ∃ h, LngIs k R h ∧ ((h < 0 ∧ c = -1) ∨ (0 ≤ h ∧ c = ((pSum R k.toNat (h.toNat + 1) : Nat) : Int)))
theorem CntIs.uniq {k : Int} {R : List RulD} {c c' : Int} (a : CntIs k R c) (b : CntIs k R c') : c = c' := by
  obtain ⟨h, a1, a2⟩ := a
  obtain ⟨h', b1, b2⟩ := b
  obtain rfl := a1.uniq b1
  rcases a2 with ⟨a2, a3⟩ | ⟨a2, a3⟩ <;> rcases b2 with ⟨b2, b3⟩ | ⟨b2, b3⟩
  · rw [a3, b3]
  · omega
  · omega
  · rw [a3, b3]
def RetCn (k : Int) (R : List RulD) (w : World) (e : Ending) (w' : World) : Prop := ∃ c, CntIs k R c ∧ e = .returned (.int .i64 c) ∧ Below w.heap.size w w'
set_option maxRecDepth 20000 in
set_option maxHeartbeats 1000000 in
theorem implLongestReduced_any (k : Int) (R : List RulD) (a : Option Addr) (cap : Nat) (w : World) (hl : RulesIn w a R) (hlen : R.length ≤ 2 ^ 40) (hz : SzR R) :
    Calls Tryz.prog 17 #[.agg #[.int .i64 k, .slice a R.length cap]] w (RetLg k R w) := by
  have HL := Lib.hid hl
  have HS := Lib.hid (fun W h => implSystemOk_any k R a cap W h hlen hz)
  have HN := Lib.hid (fun W h => newReader_any k R a cap W h hlen hz)
  have HA := Lib.hid (fun o => alloc_belowS w o)
  have hbx := alloc_at w (.cells #[.int .i64 k, .slice a R.length cap] 25)
  have HBX : Hid (∀ W2, Below (w.alloc (.cells #[.int .i64 k, .slice a R.length cap] 25)).heap.size (w.alloc (.cells #[.int .i64 k, .slice a R.length cap] 25)) W2 → W2.cell? ⟨w.heap.size, 0, none⟩ = some (.int .i64 k) ∧ W2.cell? ⟨w.heap.size, 1, none⟩ = some (.slice a R.length cap)) := Lib.hid (fun W2 hW2 => sys_cells ((hW2.block w.heap.size (by simp)).trans hbx))
  clear hl hz hbx
  go_enter Tryz.func17, Tryz.ntmps17
  go_wp2_with fail
  refine (HS.out _ (HL.out.later (HA.out _))).mono ?_
  rintro e w1 ⟨bb, hbb, rfl, hb1⟩
  have HBB := Lib.hid hbb
  obtain ⟨s0, s1⟩ := HBX.out w1 hb1
  have HW1 := Lib.hid (Below.now (HA.out _) hb1)
  clear hbb hb1 HS HBX
  cases bb
  · have F : Hid (RetLg k R w (.returned (.int .i64 (-1))) w1) := Lib.hid ⟨-1, .inl ⟨fun h => (by have := HBB.out.2 h; cases this), rfl⟩, rfl, HW1.out⟩
    go_wp2_with fail
    go_ret
    exact F.out
  · have HSP := Lib.hid (HBB.out.1 rfl)
    clear HBB
    obtain ⟨_, _, hk1, hk4⟩ := sys_sizes HSP.out
    obtain ⟨kn, rfl⟩ := Int.eq_ofNat_of_zero_le (show 0 ≤ k by omega)
    have HLG := Lib.hid (fun p W h1 h2 => longest_any kn R p a cap W h1 hlen h2 (sysG_of HSP.out))
    go_wp2_with fail
    refine (HN.out _ (HL.out.later HW1.out)).mono ?_
    rintro e w2 ⟨p, rfl, hrd, hp, hb2⟩
    have HRD := Lib.hid hrd
    have HW2 := Lib.hid (Below.now HW1.out hb2)
    clear hrd hp hb2 s0 s1 HN
    go_wp2_with fail
    refine (HLG.out _ _ (HL.out.later HW2.out) HRD.out).mono ?_
    rintro e w3 ⟨h, hh, rfl, hb3⟩
    have F : Hid (RetLg (kn : Int) R w (.returned (.int .i64 h)) w3) := Lib.hid ⟨h, .inr ⟨HSP.out, by simpa using hh⟩, rfl, Below.now HW2.out hb3⟩
    clear hh hb3 HLG
    go_wp2_with fail
    go_ret
    exact F.out
set_option maxHeartbeats 1000000 in
theorem sumOf_any (R : List RulD) (k n : Nat) (a : Option Addr) (cap : Nat) (w : World) (hl : IntsIn w a (growL R k n)) (hn : n ≤ 30000) (ht : pSum R k (n + 1) ≤ topB) :
    Calls Tryz.prog 92 #[.slice a (growL R k n).length cap] w fun e w' => e = .returned (.int .i64 ((pSum R k (n + 1) : Nat) : Int)) ∧ Below w.heap.size w w' := by
  have HL := Lib.hid hl
  have HT : Hid (∀ j, j ≤ n + 1 → pSum R k j ≤ 4611686018427387903) := Lib.hid (fun j hj => by have h1 := pSum_mono R k hj; unfold topB at ht; omega)
  have hlen := growL_len R k n
  have HG : Hid (∀ j, j < n + 1 → nthZ (growL R k n) j = ((paths R k j ⟨#[]⟩ : Nat) : Int)) := Lib.hid (fun j hj => by
    rw [nthZ_lt (by rw [growL_len]; exact hj)]; simp [growL])
  rw [hlen]
  generalize growL R k n = l at *
  clear hl ht
  go_enter Tryz.func92, Tryz.ntmps92
  go_wp2_with fail
  go_loopw [3, 8] (fun s i wr => ∃ j : Nat, j ≤ n + 1 ∧ i = .int .i64 (j : Nat) ∧ s = .int .i64 ((pSum R k j : Nat) : Int) ∧ Below w.heap.size w wr) (fun _ i _ => n + 1 - (intOf i).toNat)
  case atStart => exact ⟨0, Nat.zero_le _, rfl, rfl, Below.refl _ _⟩
  case round =>
    obtain ⟨j, hj, rfl, rfl, hbw⟩ := hrel
    by_cases hlt : j < n + 1
    · obtain ⟨b, off, rfl, hb, hc⟩ := (HL.out.later hbw).cell (i := j) (by omega)
      have c1 := hc j (by omega)
      rw [HG.out j hlt] at c1
      have hs := pSum_succ R k j
      have h1 := HT.out j hj
      have h2 := HT.out (j + 1) hlt
      have HSS := Lib.hid hs
      have h3 : paths R k j ⟨#[]⟩ ≤ 4611686018427387903 := by omega
      clear hc hs
      have h4 : pSum R k j + paths R k j ⟨#[]⟩ ≤ 4611686018427387903 := by rw [← HSS.out]; exact h2
      generalize hp : pSum R k j = x at *
      generalize hq : paths R k j ⟨#[]⟩ = y at *
      clear hp hq h2
      go_wp2_with fail
      go_roundw
      case rel => exact ⟨j + 1, by omega, by go_num, by rw [HSS.out]; go_num, hbw⟩
      case measure => simp [intOf]; omega
    · obtain rfl : j = n + 1 := by omega
      go_wp2_with fail
      go_ret
      exact ⟨rfl, hbw⟩
set_option maxRecDepth 20000 in
set_option maxHeartbeats 1000000 in
theorem implCountAll_any (k : Int) (R : List RulD) (a : Option Addr) (cap : Nat) (w : World) (hl : RulesIn w a R) (hlen : R.length ≤ 2 ^ 40) (hz : SzR R) :
    Calls Tryz.prog 56 #[.agg #[.int .i64 k, .slice a R.length cap]] w (RetCn k R w) := by
  have HL := Lib.hid hl
  have HS := Lib.hid (fun W h => implLongestReduced_any k R a cap W h hlen hz)
  have HA := Lib.hid (fun o => alloc_belowS w o)
  have hbx := alloc_at w (.cells #[.int .i64 k, .slice a R.length cap] 25)
  have HBX : Hid (∀ W2, Below (w.alloc (.cells #[.int .i64 k, .slice a R.length cap] 25)).heap.size (w.alloc (.cells #[.int .i64 k, .slice a R.length cap] 25)) W2 → W2.cell? ⟨w.heap.size, 0, none⟩ = some (.int .i64 k) ∧ W2.cell? ⟨w.heap.size, 1, none⟩ = some (.slice a R.length cap)) := Lib.hid (fun W2 hW2 => sys_cells ((hW2.block w.heap.size (by simp)).trans hbx))
  clear hl hz hbx
  go_enter Tryz.func56, Tryz.ntmps56
  go_wp2_with fail
  refine (HS.out _ (HL.out.later (HA.out _))).mono ?_
  rintro e w1 ⟨h, hlg, rfl, hb1⟩
  have HLG := Lib.hid hlg
  obtain ⟨s0, s1⟩ := HBX.out w1 hb1
  have HW1 := Lib.hid (Below.now (HA.out _) hb1)
  clear hb1 HS HBX
  by_cases h0 : h < 0
  · have F : Hid (RetCn k R w (.returned (.int .i64 (-1))) w1) := Lib.hid ⟨-1, ⟨h, HLG.out, .inl ⟨h0, rfl⟩⟩, rfl, HW1.out⟩
    clear hlg
    go_wp2_with fail
    go_ret
    exact F.out
  · rcases hlg with ⟨_, h1⟩ | ⟨hsp, hh⟩
    · omega
    · obtain ⟨_, _, hk1, hk4⟩ := sys_sizes hsp
      obtain ⟨kn, rfl⟩ := Int.eq_ofNat_of_zero_le (show 0 ≤ k by omega)
      obtain ⟨hn, rfl⟩ := Int.eq_ofNat_of_zero_le (show 0 ≤ h by omega)
      have hG := sysG_of hsp
      have hh' : HtIs R kn ⟨#[]⟩ (hn : Int) := by simpa using hh
      have hle := HtIs.le hG (EndP.nil kn) hh'
      have htop := pSum_top hG hh'
      have HGR := Lib.hid (fun W h => growthA_any kn hn R a cap W h hlen hsp (by omega) (fun i hi => Nat.le_trans (pSum_at R kn (show i < hn + 1 by omega)) htop))
      have HSU := Lib.hid (fun a2 c2 W h => sumOf_any R kn hn a2 c2 W h (by omega) htop)
      have HF : Hid (CntIs (kn : Int) R ((pSum R kn (hn + 1) : Nat) : Int)) := Lib.hid ⟨(hn : Int), HLG.out, .inr ⟨by omega, by simp⟩⟩
      clear hsp hh hh' htop hG HLG
      go_wp2_with fail
      refine (HGR.out _ (HL.out.later HW1.out)).mono ?_
      rintro e w2 ⟨a2, c2, rfl, ho2, hb2⟩
      have HI := Lib.hid (owns_ints ho2)
      have HW2 := Lib.hid (Below.now HW1.out hb2)
      clear ho2 hb2 HGR s0 s1
      go_wp2_with fail
      refine (HSU.out _ _ _ HI.out).mono ?_
      rintro e w3 ⟨rfl, hb3⟩
      have F : Hid (RetCn (kn : Int) R w (.returned (.int .i64 ((pSum R kn (hn + 1) : Nat) : Int))) w3) := Lib.hid ⟨_, HF.out, rfl, Below.now HW2.out hb3⟩
      clear hb3 HSU
      go_wp2_with fail
      go_ret
      exact F.out
end Go.Proofs.YtdhaebbfiaddnaaGreatDoor
namespace Go.Proofs.YtdhaebbfiaddnaaGreatDoor
open Go.RowKit
set_option linter.unusedVariables false
theorem alloc_new (w : World) (o : Obj) : (w.alloc o).heap[w.heap.size]? = some o := by
  unfold World.alloc; simp
theorem alloc_old (w : World) (o : Obj) {k : Nat} (h : k < w.heap.size) : (w.alloc o).heap[k]? = w.heap[k]? := by
  unfold World.alloc; rw [Array.getElem?_push_lt h, Array.getElem?_eq_getElem h]
theorem alloc_size (w : World) (o : Obj) : (w.alloc o).heap.size = w.heap.size + 1 := by simp
theorem two_lo (w : World) (o o' : Obj) : ((w.alloc o).alloc o').heap[w.heap.size]? = some o := by
  rw [alloc_old _ _ (by rw [alloc_size]; omega)]; exact alloc_new _ _
theorem two_hi (w : World) (o o' : Obj) : ((w.alloc o).alloc o').heap[w.heap.size + 1]? = some o' := by
  rw [← alloc_size w o]; exact alloc_new _ _
theorem bld_at {T : TypeId} {wr W : World} {H : Nat} (hb : Below wr.heap.size wr W) (hH : W.heap[H]? = some (.cells #[] T (0, 0))) (hge : wr.heap.size ≤ H) : Bld T 1 wr W (.slice (some ⟨H, 0, none⟩) 0 0) 0 [] :=
  ⟨⟨rfl, .inr ⟨H, 0, #[], rfl, hge, hH, Nat.le_refl _, Nat.zero_le _, rfl, rfl⟩⟩, hb⟩
theorem src_at {T : TypeId} {W : World} {H : Nat} {y : Value} (hH : W.heap[H]? = some (.cells #[y] T (0, 0))) : Src W (.slice (some ⟨H, 0, none⟩) 1 1) 1 [y] := by
  refine .inr ⟨_, _, rfl, fun j u hu => ?_⟩
  have hj : j = 0 := by have := (List.getElem?_eq_some_iff.1 hu).1; simp at this; omega
  subst hj
  rw [add_off]
  simp at hu
  simp [World.cell?, hH, hu]
theorem Src.grown {w w' : World} {H m c : Nat} {own : Option Nat} {news : List Value} (h : Src w (.slice (some ⟨H, 0, none⟩) m c) m news) (hg : w.grownBy w' own) (hH : H < w.heap.size) (hne : own ≠ some H) : Src w' (.slice (some ⟨H, 0, none⟩) m c) m news := by
  rcases h with ⟨h, _⟩ | ⟨ad, c', hx, hc⟩
  · cases h
  · simp only [Value.slice.injEq, Option.some.injEq, true_and] at hx
    obtain ⟨rfl, rfl⟩ := hx
    refine .inr ⟨_, _, rfl, fun j u hu => ?_⟩
    rw [add_off]
    have h1 := hc j u hu
    rw [add_off] at h1
    rw [World.cell?_of_block (w := w) (hg.block H hH (fun e => hne e.symm))]
    exact h1
section
variable {P : Program}
/-- the same where the operation is guarded -/
theorem step_appM_g {ops : Array Oper} {o : Oper} {a : Act} {K : Act → World → Prop} {Q : Exit → Act → World → Prop} {E : Prop} {T tsl : TypeId} {z : Value} {size bytes : Nat} (hw : Region.wanted o (yielded ops a.tmps) = true) (s x : Operand)
    (ho : o.op = .call { callee := .builtin .append, args := #[s, x], argTypes := #[tsl, tsl] }) (ht : P.underlying tsl = some (.slice T)) (hinfo : (P.info? T).map (fun i => (i.zero, i.size, i.bytes)) = some (some z, size, bytes))
    (hzs : z.cells.size = size) (hpos : 0 < size) {w wr : World} {v u : Value} {n m : Nat} {xs news : List Value} (hs : a.eval s = v) (hb : Bld T size w wr v n xs) (hx : a.eval x = u) (hsrc : Src wr u m news)
    (hn : news.length = m * size) (h1 : ∀ u ∈ news, u.oneCell' = true) (h63 : n + m ≤ maxLen) (hbytes : (n + m) * bytes ≤ 140737488355328)
    (hK : ∀ v' w', Bld T size w w' v' (n + m) (xs ++ news) → wr.grownBy w' v.ownBlock → (v'.ownBlock = v.ownBlock ∨ v'.ownBlock = some wr.heap.size) → K (a.put o.dst v') w') : if Region.wanted o (yielded ops a.tmps) = true then Oper.wp P o a wr K Q else E := by
  rw [if_pos hw]
  obtain ⟨v', w', hr, h2, h3, h4⟩ := run_appM (ty := o.type) ht hinfo hzs hpos hb hsrc hn h1 h63 hbytes
  unfold Oper.wp execOp
  simp only [ho, resolve, invoke, builtin, Sem.run_bind, Sem.run_pure, Result.andThen_ok, List.map_toArray, List.map_cons, List.map_nil, hs, hx, hr]
  exact hK _ _ h2 h3 h4
theorem step_appM_gby {ops : Array Oper} {o : Oper} {a : Act} {K : Act → World → Prop} {Q : Exit → Act → World → Prop} {E : Prop} {T tsl : TypeId} {z : Value} {bytes : Nat} (hg : Region.wanted o (yielded ops a.tmps) = true) (s x : Operand)
    (ho : o.op = .call { callee := .builtin .append, args := #[s, x], argTypes := #[tsl, tsl] }) (ht : P.underlying tsl = some (.slice T)) (hinfo : (P.info? T).map (fun i => (i.zero, i.size, i.bytes)) = some (some z, 1, bytes))
    (hzs : z.cells.size = 1) {w wr : World} {H H2 : Nat} {u y : Value} {m : Nat} {news : List Value} (hs : a.eval s = .slice (some ⟨H, 0, none⟩) 0 0) (hb : Bld T 1 w wr (.slice (some ⟨H, 0, none⟩) 0 0) 0 []) (hx : a.eval x = u) (hsrc : Src wr u m news)
    (hy : Src wr (.slice (some ⟨H2, 0, none⟩) 1 1) 1 [y]) (hH : H ≠ H2) (hH2 : H2 < wr.heap.size)
    (hn : news.length = m) (h1 : ∀ u ∈ news, u.oneCell' = true) (h63 : m ≤ maxLen) (hbytes : m * bytes ≤ 140737488355328)
    (hK : ∀ v' w', Bld T 1 w w' v' m news → Src w' (.slice (some ⟨H2, 0, none⟩) 1 1) 1 [y] → K (a.put o.dst v') w') : if Region.wanted o (yielded ops a.tmps) = true then Oper.wp P o a wr K Q else E := by
  refine step_appM_g hg s x ho ht hinfo hzs (by omega) hs hb hx hsrc (by omega) h1 (by omega) (by rw [Nat.zero_add]; exact hbytes) fun v' w' h2 hgr _ => ?_
  rw [Nat.zero_add, List.nil_append] at h2
  exact hK v' w' h2 (hy.grown hgr hH2 (fun e => hH (by simpa [Value.ownBlock] using e)))
end
theorem owns_strsIn2 {w : World} {base : Nat} {T : TypeId} {a : Option Addr} {n cap : Nat} {l : List ByteArray} (h : w.ownsRow base T 1 (.slice a n cap) n (strVals l)) : StrsIn w a l := owns_cells h
theorem strsIn_app {w : World} {base g n cap : Nat} {T : TypeId} {l : List ByteArray} {x : ByteArray} (h : w.ownsRow base T 1 (.slice (some ⟨g, 0, none⟩) n cap) n (strVals l ++ [.string x])) : StrsIn w (some ⟨g, 0, none⟩) (l ++ [x]) := by
  refine owns_strsIn2 (n := n) (cap := cap) (base := base) (T := T) ?_
  unfold strVals at *
  rw [List.map_append]; exact h
end Go.Proofs.YtdhaebbfiaddnaaGreatDoor
