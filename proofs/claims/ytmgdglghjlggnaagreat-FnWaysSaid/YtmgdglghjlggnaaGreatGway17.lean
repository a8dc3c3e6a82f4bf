/-
  Elements of groups: has, slices.Index at ints, inverse, power.
-/
import Derived.Test.YtmgdglghjlggnaaGreatGway11
import Derived.Test.YtmgdglghjlggnaaGreatGway09
import Derived.Test.YtmgdglghjlggnaaGreatGway05
import Derived.Test.YtmgdglghjlggnaaGreatGway16
import Derived.Test.YtmgdglghjlggnaaGreatGway06
import Derived.Deep.RegionHeld3
namespace Go.Proofs.YtmgdglghjlggnaaGreat
open Go.RowKit
set_option linter.unusedVariables false
theorem row_kept {w w' : World} {base : Nat} {T : TypeId} {size : Nat} {v : Value} {n : Nat} {xs : List Value} {row : Option Nat} (h : w.ownsRow base T size v n xs) (hg : w.grownBy w' row) (hne : v.ownBlock = none ∨ v.ownBlock ≠ row) : w'.ownsRow base T size v n xs := h.kept hg hne
theorem apart_rows {w : World} {base base2 : Nat} {T T2 : TypeId} {size size2 : Nat} {v v2 : Value} {n n2 : Nat} {xs ys : List Value} (h : w.ownsRow base T size v n xs) (h2 : ownsOff w base2 T2 size2 v2 n2 ys) (hne : T ≠ T2) : v.ownBlock = none ∨ v.ownBlock ≠ v2.ownBlock := by
  rcases h.2 with ⟨rfl, _⟩ | ⟨g, cap, cur, rfl, _, hg, _⟩
  · exact .inl rfl
  · right
    rcases h2.2 with ⟨rfl, _⟩ | ⟨g2, o2, cap2, cur2, rfl, _, hg2, _⟩
    · simp [Value.ownBlock]
    · intro e
      simp only [Value.ownBlock, Option.some.injEq] at e
      subst e
      rw [hg] at hg2
      have h3 := Option.some.inj hg2
      simp only [Obj.cells.injEq] at h3
      exact hne h3.2.1
theorem off_setFar {w : World} {base : Nat} {T T2 : TypeId} {size : Nat} {v : Value} {n : Nat} {xs : List Value} {g : Nat} {cs : Array Value} {fr : Nat × Nat} (h : ownsOff w base T size v n xs) (hg : w.heap[g]? = some (.cells cs T2 fr)) (hne : T ≠ T2) (o : Nat) (u : Value) : ownsOff (w.setCell ⟨g, o, none⟩ u) base T size v n xs := by
  refine h.kept (row := some g) ⟨rfl, rfl, rfl, Nat.le_of_eq (by simp), fun k hk hne2 => ?_⟩ ?_
  · unfold World.setCell
    rw [Array.getElem?_modify, if_neg (fun e => hne2 (by rw [← e]))]
  · rcases h.2 with ⟨rfl, _⟩ | ⟨g2, o2, cap2, cur2, rfl, _, hg2, _⟩
    · exact .inl rfl
    · right
      intro e
      simp only [Value.ownBlock, Option.some.injEq] at e
      subst e
      rw [hg] at hg2
      have h3 := Option.some.inj hg2
      simp only [Obj.cells.injEq] at h3
      exact hne h3.2.1.symm
/-- the hyphens left -/
def isHy (s : ByteArray) : Bool := s.toList == [45]
def strAt (W : World) (g i : Nat) : ByteArray := match W.cell? ⟨g, i, none⟩ with
  | some (.string s) => s
  | _ => ⟨#[]⟩
def hyN (S : List ByteArray) : Nat := S.countP isHy
def hyLeft (W : World) (g m : Nat) : Nat := hyN ((List.range m).map fun i => strAt W g i)
theorem isHy_iff {s : ByteArray} : isHy s = true ↔ s = hyB := by
  unfold isHy
  rw [beq_iff_eq, Lib.toList_data]
  constructor
  · intro h
    have h2 : s.data.toList = hyB.data.toList := h
    cases s
    unfold hyB at *
    simp only [ByteArray.mk.injEq]
    exact Array.ext' h2
  · rintro rfl; rfl
theorem off_lit3 (w W : World) (v : Value) (T : TypeId) (h : Below (w.alloc (.cells #[v] T)).heap.size (w.alloc (.cells #[v] T)) W) : ownsOff W w.heap.size T 1 (.slice (some ⟨w.heap.size, 0, none⟩) 1 1) 1 [v] :=
  (ownsOff.of_row (World.ownsRow_lit w #[v] 1 (Nat.le_refl _) (by unfold maxLen; omega) rfl)).later h
theorem que_cell {W : World} {base g o n c : Nat} {T : TypeId} {q : Nat} {Q : List Nat} (h : ownsOff W base T 1 (.slice (some ⟨g, o, none⟩) n c) n (intVals ((q :: Q).map Int.ofNat))) : W.cell? ⟨g, o, none⟩ = some (.int .i64 ((q : Nat) : Int)) := by
  have := h.cellAt 0 (.int .i64 ((q : Nat) : Int)) rfl
  rw [Nat.add_zero] at this
  exact this
theorem que_head {W : World} {base n c : Nat} {a : Option Addr} {T : TypeId} {q : Nat} {Q : List Nat} (h : ownsOff W base T 1 (.slice a n c) n (intVals ((q :: Q).map Int.ofNat))) : ∃ g o, a = some ⟨g, o, none⟩ ∧ W.cell? ⟨g, o, none⟩ = some (.int .i64 ((q : Nat) : Int)) := by
  rcases h.2 with ⟨hv, h0⟩ | ⟨g, o, cap, cur, hv, _⟩
  · have := h.1
    rw [h0] at this
    simp [intVals] at this
  · simp only [Value.slice.injEq] at hv
    obtain ⟨rfl, _, _⟩ := hv
    exact ⟨g, o, rfl, que_cell h⟩
theorem hyN_set {S : List ByteArray} {v : Nat} {x : ByteArray} (hv : v < S.length) (h : nthS S v = hyB) (hx : x ≠ hyB) : hyN (S.set v x) + 1 = hyN S := by
  have h1 : isHy S[v] = true := isHy_iff.2 (by rw [← nthS_lt hv]; exact h)
  have h2 : isHy x = false := by
    cases hb : isHy x
    · rfl
    · exact absurd (isHy_iff.1 hb) hx
  have h3 : 0 < S.countP isHy := List.countP_pos_iff.2 ⟨S[v], List.getElem_mem hv, h1⟩
  unfold hyN
  rw [List.countP_set hv, if_pos h1, h2]
  simp
  omega
/-- a search under way, in memory -/
structure ShSt (w1 wr : World) (g0 c0 m : Nat) (vq : Value) (ln zn : List Nat) (S : List ByteArray) (D Q : List Nat) (j : Nat) : Prop where
  below : Below w1.heap.size w1 wr
  row : wr.ownsRow w1.heap.size 9 1 (.slice (some ⟨g0, 0, none⟩) m c0) m (strVals S)
  que : ownsOff wr w1.heap.size 3 1 vq Q.length (intVals (Q.map Int.ofNat))
  sh : ShP m ln zn S D Q j
section
variable {w1 wr : World} {g0 c0 m : Nat} {vq : Value} {ln zn : List Nat} {S : List ByteArray} {D Q : List Nat} {j : Nat}
theorem ShSt.later {w' : World} (h : ShSt w1 wr g0 c0 m vq ln zn S D Q j) (hb : Below wr.heap.size wr w') : ShSt w1 w' g0 c0 m vq ln zn S D Q j :=
  ⟨Below.now h.below hb, owns_later h.row hb, h.que.later hb, h.sh⟩
theorem ShSt.slen (h : ShSt w1 wr g0 c0 m vq ln zn S D Q j) : S.length = m := by
  obtain ⟨O, h1, _⟩ := h.sh
  exact h1
theorem ShSt.cell (h : ShSt w1 wr g0 c0 m vq ln zn S D Q j) {i : Nat} (hi : i < m) : wr.cell? ⟨g0, i, none⟩ = some (.string (nthS S i)) := by
  have hl := h.slen
  rw [h.row.cellAt i (by omega)]
  unfold strVals
  rw [List.getElem?_map, List.getElem?_eq_getElem (by omega), nthS_lt (by omega)]; rfl
theorem ShSt.left (h : ShSt w1 wr g0 c0 m vq ln zn S D Q j) : hyLeft wr g0 m = hyN S := by
  have hl := h.slen
  unfold hyLeft
  congr 1
  apply List.ext_getElem (by simp [hl])
  intro i h1 h2
  simp only [List.length_map, List.length_range] at h1
  rw [List.getElem_map, List.getElem_range]
  unfold strAt
  rw [h.cell h1, nthS_lt h2]
theorem ShSt.new {x : ByteArray} {w4 : World} {v4 : Value} (h : ShSt w1 wr g0 c0 m vq ln zn S D Q j) (hz4 : zn.length ≤ 4) (hj : j < zn.length) {q : Nat} (hq : Q.head? = some q) (hlt : nxT m ln zn q j < m) (hm : nthS S (nxT m ln zn q j) = hyB) (hx : x = nthS S q ++ letterN j)
    (ho : ownsOff w4 w1.heap.size 3 1 v4 (Q.length + 1) (intVals (Q.map Int.ofNat) ++ [.int .i64 (nxT m ln zn q j : Nat)])) (hg : ((wr.setCell ⟨g0, nxT m ln zn q j, none⟩ (.string x)).alloc (.cells #[.int .i64 (nxT m ln zn q j : Nat)] 3)).grownBy w4 vq.ownBlock) :
    ShSt w1 w4 g0 c0 m v4 ln zn (S.set (nxT m ln zn q j) x) D (Q ++ [nxT m ln zn q j]) (j + 1) := by
  subst hx
  have hl := h.slen
  have hg0 := h.row.lt g0 rfl
  have hbs : Below w1.heap.size w1 ((wr.setCell ⟨g0, nxT m ln zn q j, none⟩ (.string (nthS S q ++ letterN j))).alloc (.cells #[.int .i64 (nxT m ln zn q j : Nat)] 3)) := (h.below.setCell hg0.1 _).alloc (by simp; exact h.below.size) _
  have hrow : (wr.setCell ⟨g0, nxT m ln zn q j, none⟩ (.string (nthS S q ++ letterN j))).ownsRow w1.heap.size 9 1 (.slice (some ⟨g0, 0, none⟩) m c0) m (strVals (S.set (nxT m ln zn q j) (nthS S q ++ letterN j))) := by
    have := (h.row.stored (nxT m ln zn q j) (.string (nthS S q ++ letterN j))).1
    rw [show (strVals S).set (nxT m ln zn q j) (.string (nthS S q ++ letterN j)) = strVals (S.set (nxT m ln zn q j) (nthS S q ++ letterN j)) by unfold strVals; rw [List.map_set]] at this
    exact this
  have hque : ∀ o : Obj, ownsOff ((wr.setCell ⟨g0, nxT m ln zn q j, none⟩ (.string (nthS S q ++ letterN j))).alloc o) w1.heap.size 3 1 vq Q.length (intVals (Q.map Int.ofNat)) := fun o => by
    rcases h.row.2 with ⟨hv, _⟩ | ⟨g, cap, cur, hv, _, hgg, _⟩
    · cases hv
    · simp only [Value.slice.injEq, Option.some.injEq, Addr.mk.injEq] at hv
      obtain ⟨⟨rfl, _, _⟩, _⟩ := hv
      exact (off_setFar h.que hgg (by decide) _ _).later (alloc_belowS _ _)
  refine ⟨?_, ?_, ?_, h.sh.new hz4 hj hq hlt hm⟩
  · exact hbs.grown hg (by simp; have := h.below.size; omega) (fun k hk => (h.que.lt k hk).1)
  · have hr2 := owns_later hrow (alloc_belowS _ (.cells #[.int .i64 (nxT m ln zn q j : Nat)] 3))
    exact row_kept hr2 hg (apart_rows hr2 (hque _) (by decide))
  · rw [List.length_append, List.map_append]
    unfold intVals at *
    rw [List.map_append]
    exact ho
theorem ShSt.newE {x : ByteArray} {w4 : World} {v4 : Value} {nx : Nat} (h : ShSt w1 wr g0 c0 m vq ln zn S D Q j) (hz4 : zn.length ≤ 4) (hj : j < zn.length) {q : Nat} (hq : Q.head? = some q) (hn : nxT m ln zn q j = nx) (hlt : nx < m) (hm : nthS S nx = hyB) (hx : x = nthS S q ++ letterN j)
    (ho : ownsOff w4 w1.heap.size 3 1 v4 (Q.length + 1) (intVals (Q.map Int.ofNat) ++ [.int .i64 (nx : Nat)])) (hg : ((wr.setCell ⟨g0, nx, none⟩ (.string x)).alloc (.cells #[.int .i64 (nx : Nat)] 3)).grownBy w4 vq.ownBlock) :
    ShSt w1 w4 g0 c0 m v4 ln zn (S.set nx x) D (Q ++ [nx]) (j + 1) := by
  subst hn
  exact h.new hz4 hj hq hlt hm hx ho hg
theorem ShSt.queSet (h : ShSt w1 wr g0 c0 m vq ln zn S D Q j) (i : Nat) (x : Value) (o : Obj) : ownsOff ((wr.setCell ⟨g0, i, none⟩ x).alloc o) w1.heap.size 3 1 vq Q.length (intVals (Q.map Int.ofNat)) := by
  rcases h.row.2 with ⟨hv, _⟩ | ⟨g, cap, cur, hv, _, hgg, _⟩
  · cases hv
  · simp only [Value.slice.injEq, Option.some.injEq, Addr.mk.injEq] at hv
    obtain ⟨⟨rfl, _, _⟩, _⟩ := hv
    exact (off_setFar h.que hgg (by decide) _ _).later (alloc_belowS _ _)
theorem ShSt.old (h : ShSt w1 wr g0 c0 m vq ln zn S D Q j) (hz4 : zn.length ≤ 4) {q : Nat} (hq : Q.head? = some q) (hlt : nxT m ln zn q j < m) (hm : nthS S (nxT m ln zn q j) ≠ hyB) : ShSt w1 wr g0 c0 m vq ln zn S D Q (j + 1) :=
  ⟨h.below, h.row, h.que, h.sh.old hz4 hq hlt hm⟩
end
def lenOf : Value → Nat
  | .slice _ n _ => n
  | _ => 0
/-- what shortest leaves -/
def RetSh (m : Nat) (ln zn : List Nat) (w : World) (e : Ending) (w' : World) : Prop := ∃ S, ShortP m ln zn S ∧ RetSl 9 1 m (strVals S) w e w'
set_option maxRecDepth 20000 in
set_option maxHeartbeats 4000000 in
theorem shortest_any (m : Nat) (ln zn : List Nat) (a : Option Addr) (len cap : Nat) (az : Option Addr) (cz : Nat) (w : World) (hl : NatsIn w a ln) (hT : Tb m ln) (hlen : len = m * m) (hz : NatsIn w az zn) (hzm : ∀ x ∈ zn, x < m) (hz4 : zn.length ≤ 4) :
    Calls Tryz.prog 30 #[.agg #[.int .i64 m, .slice a len cap], .slice az zn.length cz] w (RetSh m ln zn w) := by
  have hm := hT.hi
  have hm1 := hT.lo
  have HT := Lib.hid hT
  have HL := Lib.hid hlen
  have HM := Lib.hid hzm
  have HZ4 := Lib.hid hz4
  have HB := Lib.hid (alloc_belowS w (.cells #[.int .i64 (m : Nat), .slice a len cap] 25))
  have HX : Hid (∀ W, Below (w.alloc (.cells #[.int .i64 (m : Nat), .slice a len cap] 25)).heap.size (w.alloc (.cells #[.int .i64 (m : Nat), .slice a len cap] 25)) W → W.cell? ⟨w.heap.size, 0, none⟩ = some (.int .i64 (m : Nat)) ∧ W.cell? ⟨w.heap.size, 1, none⟩ = some (.slice a len cap)) := Lib.hid (fun W hW => ⟨by rw [hW.cell (by simp)]; simp, by rw [hW.cell (by simp)]; simp⟩)
  have HN := Lib.hid (hl.later HB.out)
  have HZ := Lib.hid (hz.later HB.out)
  have HRP := Lib.hid (fun g W h => repeatS_any hyB g 0 1 m W h hm1 (by omega))
  have hgt : w.heap.size < (w.alloc (.cells #[.int .i64 (m : Nat), .slice a len cap] 25)).heap.size := by simp
  clear hl hT hlen hz hzm
  go_enter Tryz.func30, Tryz.ntmps30
  go_upto_region 1 with fail
  generalize w.alloc (.cells #[.int .i64 (m : Nat), .slice a len cap] 25) = w1 at *
  obtain ⟨z0, z1⟩ := HX.out w1 (Below.refl _ _)
  go_wp2_with fail
  refine (HRP.out _ _ ?_).mono ?_
  · simp
    rfl
  rintro e w2 ⟨a0, c0, rfl, ho, hb⟩
  have HB2 := Lib.hid (Below.now (alloc_belowS w1 _) hb)
  have HO2 := Lib.hid (owns_mono ho (by simp : w1.heap.size ≤ _))
  obtain ⟨g0, rfl⟩ : ∃ g0, a0 = some ⟨g0, 0, none⟩ := by
    rcases ho.2 with ⟨hv, h0⟩ | ⟨g, cap', cur, hv, _⟩
    · simp only [Value.slice.injEq] at hv; omega
    · simp only [Value.slice.injEq] at hv; exact ⟨g, hv.1⟩
  have hge : w1.heap.size ≤ g0 := (HO2.out.lt g0 rfl).1
  have f0 := HO2.out.frozenAt 0
  have t0 : w2.cell? ⟨g0, 0, none⟩ = some (.string hyB) := by
    rw [HO2.out.cellAt 0 (by omega), rep_at _ (by omega)]
  have hmpos : (0 : Int) < (m : Int) := by omega
  have HRW : Hid ((w2.setCell ⟨g0, 0, none⟩ (.string ⟨#[]⟩)).ownsRow w1.heap.size 9 1 (.slice (some ⟨g0, 0, none⟩) m c0) m (strVals ((List.replicate m hyB).set 0 ⟨#[]⟩))) := Lib.hid (by
    have := (HO2.out.stored 0 (.string ⟨#[]⟩)).1
    rw [show (strVals (List.replicate m hyB)).set 0 (.string ⟨#[]⟩) = strVals ((List.replicate m hyB).set 0 ⟨#[]⟩) by unfold strVals; rw [List.map_set]] at this
    exact this)
  have HB3 := Lib.hid (HB2.out.setCell hge (.string ⟨#[]⟩) (p := ⟨g0, 0, none⟩))
  have HQ3 := Lib.hid (fun W h => off_lit3 (w2.setCell ⟨g0, 0, none⟩ (.string ⟨#[]⟩)) W (.int .i64 0) 3 h)
  clear ho hb HO2 HRP z0 z1
  go_upto_region 3 with fail
  clear t0 f0
  generalize w2.setCell ⟨g0, 0, none⟩ (.string ⟨#[]⟩) = w3 at *
  have HST : Hid (ShSt w1 (w3.alloc (.cells #[.int .i64 0] 3)) g0 c0 m (.slice (some ⟨w3.heap.size, 0, none⟩) 1 1) ln zn ((List.replicate m hyB).set 0 ⟨#[]⟩) [] [0] 0) := Lib.hid ⟨Below.now HB3.out (alloc_belowS _ _), owns_later HRW.out (alloc_belowS _ _), ownsOff.mono (HQ3.out _ (Below.refl _ _)) HB3.out.size, ShP.start (by omega)⟩
  clear HRW HB3 HQ3 HB2
  go_wp2_with fail
  generalize w3.alloc (.cells #[.int .i64 0] 3) = w4 at *
  generalize w3.heap.size = gq0 at *
  go_loopw [6] (fun vq wr => ∃ (S : List ByteArray) (D Q : List Nat), Hid (ShSt w1 wr g0 c0 m vq ln zn S D Q 0)) (fun vq W => 5 * hyLeft W g0 m + lenOf vq)
  case atStart => exact ⟨_, _, _, HST⟩
  case round =>
    clear HST
    obtain ⟨S, D, Q, HS⟩ := hrel
    obtain ⟨aq, cq, rfl⟩ := HS.out.que.form
    cases Q with
    | nil =>
      have F : Hid (RetSh m ln zn w (.returned (.slice (some ⟨g0, 0, none⟩) m c0)) wr) := Lib.hid ⟨S, HS.out.sh.done HZ4.out, _, _, rfl, owns_mono HS.out.row (by omega), Below.now HB.out HS.out.below⟩
      simp only [List.length_nil]
      go_wp2_with fail
      go_ret
      exact F.out
    | cons q Qt =>
      have hM0 : Hid (5 * hyLeft wr g0 m + (Qt.length + 1) = 5 * hyN S + (Qt.length + 1)) := Lib.hid (by rw [HS.out.left])
      simp only [List.length_cons]
      have hpq : (0 : Int) < ((Qt.length + 1 : Nat) : Int) := by omega
      have hzl : (zn.length : Int) ≤ 4 := by omega
      go_wp2_with fail
      generalize hW : wr = wr0 at *
      have HWE := Lib.hid hW
      clear hW
      go_loopw [6, 24] (fun vq x wr => ∃ (S2 : List ByteArray) (Qr : List Nat) (j : Nat) (aq : Option Addr) (cq : Nat), j ≤ zn.length ∧ x = .int .i64 (j : Nat) ∧ vq = .slice aq (Qr.length + 1) cq ∧ Hid (ShSt w1 wr g0 c0 m (.slice aq (Qr.length + 1) cq) ln zn S2 D (q :: Qr) j) ∧ Hid (5 * hyN S2 + Qr.length ≤ 5 * hyN S + Qt.length)) (fun _ x _ => zn.length - (intOf x).toNat)
      case atStart => exact ⟨S, Qt, 0, aq, cq, Nat.zero_le _, rfl, rfl, HS, Lib.hid (Nat.le_refl _)⟩
      case round =>
        clear HS
        obtain ⟨S2, Qr, j, aq, cq, hj, rfl, rfl, HS, HLE⟩ := hrel
        by_cases hlt : j < zn.length
        · obtain ⟨bz, oz, rfl, hcz⟩ := img_cell (HZ.out.later HS.out.below) hlt
          have hqm : q < m := HS.out.sh.head rfl
          have hy : zn.getD j 0 < m := by
            have := HM.out _ (List.getElem_mem hlt)
            rw [List.getD_eq_getElem?_getD, List.getElem?_eq_getElem hlt]
            exact this
          have hnm : nxT m ln zn q j < m := (HT.out.tm_lt hqm hy)
          have HNX : Hid (nxT m ln zn q j = tm m ln q (zn.getD j 0)) := Lib.hid rfl
          obtain ⟨gq, oq, rfl, hq0⟩ := que_head HS.out.que
          obtain ⟨z0, z1⟩ := HX.out wr HS.out.below
          have k0 : ∀ x, (wide wr x).cell? ⟨w.heap.size, 0, none⟩ = some (.int .i64 (m : Nat)) := wide_cell z0
          have k1 : ∀ x, (wide wr x).cell? ⟨w.heap.size, 1, none⟩ = some (.slice a len cap) := wide_cell z1
          have k2 : ∀ x, (wide wr x).cell? ⟨gq, oq, none⟩ = some (.int .i64 ((q : Nat) : Int)) := wide_cell hq0
          have HNW : Hid (∀ x, NatsIn (wide wr x) a ln) := Lib.hid (fun x => (HN.out.later HS.out.below).later (below_wide _ _))
          have HSW : Hid (∀ x, ShSt w1 (wide wr x) g0 c0 m (.slice (some ⟨gq, oq, none⟩) (Qr.length + 1) cq) ln zn S2 D (q :: Qr) j) := Lib.hid (fun x => HS.out.later (below_wide wr x))
          generalize zn.getD j 0 = y at *
          clear z0 z1 hq0
          go_upto_region 9 with fail
          clear hcz
          refine region_wide (by kernel_rfl) (by kernel_rfl) ?_
          repeat (quiet_step ((go_at_call 43; refine (implTimes_any m ln a _ _ _ _ _ (HNW.out _) HT.out HL.out (by assumption) (by assumption)).mono ?_; rintro e w2 ⟨rfl, hb2⟩; exact ⟨rfl, wide_next hb2⟩)))
          refine wpQuiet_nil ?_
          rintro w5 ⟨x5, rfl⟩
          have HS5 := Lib.hid (HSW.out x5)
          clear HSW HNW k0 k1 k2 HS
          generalize wide wr x5 = w5 at *
          rw [← HNX.out]
          clear HNX
          have hqc : w5.cell? ⟨gq, oq, none⟩ = some (.int .i64 ((q : Nat) : Int)) := que_cell HS5.out.que
          have hsq := HS5.out.sh.size HZ4.out (by omega) q hqm
          have HOLD := Lib.hid (fun hmm => HS5.out.old HZ4.out (q := q) rfl hnm hmm)
          have HHY : Hid (nthS S2 (nxT m ln zn q j) = hyB → hyN (S2.set (nxT m ln zn q j) (nthS S2 q ++ letterN j)) + 1 = hyN S2) := Lib.hid (fun hh => hyN_set (by rw [HS5.out.slen]; exact hnm) hh (by
            intro e
            have h1 := congrArg (fun u : ByteArray => u.data.toList.getLast?) e
            simp only [app_lt, List.getLast?_append, List.getLast?_singleton, Option.some_or] at h1
            have h2 : hyB.data.toList.getLast? = some 45 := rfl
            rw [h2] at h1
            have h3 := lt97_num (show j < 4 by omega)
            rw [Option.some.inj h1] at h3
            have h4 : (45 : UInt8).toNat = 45 := rfl
            omega))
          have cn := HS5.out.cell hnm
          have cq1 := HS5.out.cell hqm
          have fn := HS5.out.row.frozenAt (nxT m ln zn q j)
          have HSL := Lib.hid HS5.out.slen
          obtain ⟨nx, hnx⟩ : ∃ nx, nxT m ln zn q j = nx := ⟨_, rfl⟩
          have HNXE := Lib.hid hnx
          rw [hnx] at HOLD HHY cn fn hnm
          rw [hnx]
          clear hnx
          have hnm2 : (nx : Int) < (m : Int) := by omega
          have hqm2 : (q : Int) < (m : Int) := by omega
          cases hq : ((nthS S2 nx).toList == [45])
          · have HO2 := Lib.hid (HOLD.out (fun e => by have h := isHy_iff.2 e; unfold isHy at h; rw [hq] at h; cases h))
            clear HHY HOLD
            go_wp2_with fail
            go_roundw
            case rel => exact ⟨S2, Qr, j + 1, _, _, by omega, by go_num, rfl, HO2, HLE⟩
            case measure => simp [intOf]; omega
          · have hh : nthS S2 nx = hyB := isHy_iff.1 hq
            have HY := Lib.hid (HHY.out hh)
            have HH := Lib.hid hh
            clear hh
            have n1 : ¬ 9223372036854775807 < (nthS S2 q).size + 1 := by omega
            have n2 : (letterN j).size = 1 := rfl
            go_wp2_with fail
            refine region_tail 12 (fun W => Below w5.heap.size w5 W) (fun W W2 => Below W.heap.size W W2) (fun u => by simp only [List.take_succ_cons, List.take_zero, fPut, Act.put, List.setIfInBounds_toArray, List.set_cons_succ, List.set_cons_zero, Nat.zero_add, Nat.reduceAdd]; rfl) (by kernel_rfl) (by kernel_rfl) (by kernel_rfl) (by kernel_rfl) (by kernel_rfl) (by kernel_rfl) (by kernel_rfl) (Below.drew (Below.refl _ _)) ?_
            conv => arg 7; simp only [List.take_succ_cons, List.take_zero]
            apply each_read (fun _ => Below.refl _ _) rfl
            · intro u wv hC hf
              have y0 := (hC.cell (World.block_lt_of_cell? _ _ hqc)).trans hqc
              have y1 := (hC.cell (World.block_lt_of_cell? _ _ cq1)).trans cq1
              clear hf
              go_simp
              try rfl
            apply each_read (fun _ => Below.refl _ _) rfl
            · intro u wv hC hf
              have y0 := (hC.cell (World.block_lt_of_cell? _ _ hqc)).trans hqc
              have y1 := (hC.cell (World.block_lt_of_cell? _ _ cq1)).trans cq1
              clear hf
              go_simp
              try rfl
            conv => arg 8; simp only [List.cons_append, List.nil_append]
            apply each_read (fun _ => Below.refl _ _) rfl
            · intro u wv hC hf
              have y0 := (hC.cell (World.block_lt_of_cell? _ _ hqc)).trans hqc
              have y1 := (hC.cell (World.block_lt_of_cell? _ _ cq1)).trans cq1
              clear hf
              go_simp
              try rfl
            conv => arg 8; simp only [List.cons_append, List.nil_append]
            apply each_read (fun _ => Below.refl _ _) rfl
            · intro u wv hC hf
              have y0 := (hC.cell (World.block_lt_of_cell? _ _ hqc)).trans hqc
              have y1 := (hC.cell (World.block_lt_of_cell? _ _ cq1)).trans cq1
              clear hf
              go_simp
              try rfl
            conv => arg 8; simp only [List.cons_append, List.nil_append]
            apply each_read (fun _ => Below.refl _ _) rfl
            · intro u wv hC hf
              have y0 := (hC.cell (World.block_lt_of_cell? _ _ hqc)).trans hqc
              have y1 := (hC.cell (World.block_lt_of_cell? _ _ cq1)).trans cq1
              obtain ⟨d3_0, -⟩ := hf
              have e3 : u 3 = _ := d3_0 rfl
              clear d3_0
              go_simp
              try rfl
            conv => arg 8; simp only [List.cons_append, List.nil_append]
            apply each_read (fun _ => Below.refl _ _) rfl
            · intro u wv hC hf
              have y0 := (hC.cell (World.block_lt_of_cell? _ _ hqc)).trans hqc
              have y1 := (hC.cell (World.block_lt_of_cell? _ _ cq1)).trans cq1
              obtain ⟨d4_0, -⟩ := hf
              have e4 : u 4 = _ := d4_0 rfl
              clear d4_0
              go_simp
              try rfl
            conv => arg 8; simp only [List.cons_append, List.nil_append]
            apply each_read (fun _ => Below.refl _ _) rfl
            · intro u wv hC hf
              have y0 := (hC.cell (World.block_lt_of_cell? _ _ hqc)).trans hqc
              have y1 := (hC.cell (World.block_lt_of_cell? _ _ cq1)).trans cq1
              obtain ⟨d2_0, d5_1, -⟩ := hf
              have e2 : u 2 = _ := d2_0 rfl
              clear d2_0
              have e5 : u 5 = _ := d5_1 rfl
              clear d5_1
              go_simp
              try rfl
            conv => arg 8; simp only [List.cons_append, List.nil_append]
            apply each_read (fun _ => Below.refl _ _) rfl
            · intro u wv hC hf
              have y0 := (hC.cell (World.block_lt_of_cell? _ _ hqc)).trans hqc
              have y1 := (hC.cell (World.block_lt_of_cell? _ _ cq1)).trans cq1
              obtain ⟨d6_0, -⟩ := hf
              have e6 : u 6 = _ := d6_0 rfl
              clear d6_0
              go_simp
              try rfl
            conv => arg 8; simp only [List.cons_append, List.nil_append]
            apply each_read (fun _ => Below.refl _ _) rfl
            · intro u wv hC hf
              have y0 := (hC.cell (World.block_lt_of_cell? _ _ hqc)).trans hqc
              have y1 := (hC.cell (World.block_lt_of_cell? _ _ cq1)).trans cq1
              clear hf
              go_simp
              try rfl
            conv => arg 8; simp only [List.cons_append, List.nil_append]
            apply each_callR rfl
            · intro u wv hC hf
              have y0 := (hC.cell (World.block_lt_of_cell? _ _ hqc)).trans hqc
              have y1 := (hC.cell (World.block_lt_of_cell? _ _ cq1)).trans cq1
              obtain ⟨d8_0, -⟩ := hf
              have e8 : u 8 = _ := d8_0 rfl
              clear d8_0
              apply Exists.intro; apply Exists.intro; apply And.intro
              · go_simp; exact ⟨rfl, rfl⟩
              · refine (letterOf_any j _ (by omega)).mono ?_
                rintro e wx ⟨rfl, hbx⟩
                exact ⟨rfl, Below.now hC hbx, hbx⟩
            conv => arg 8; simp only [List.cons_append, List.nil_append]
            apply each_read (fun _ => Below.refl _ _) rfl
            · intro u wv hC hf
              have y0 := (hC.cell (World.block_lt_of_cell? _ _ hqc)).trans hqc
              have y1 := (hC.cell (World.block_lt_of_cell? _ _ cq1)).trans cq1
              obtain ⟨d7_0, d9_1, -⟩ := hf
              have e7 : u 7 = _ := d7_0 rfl
              clear d7_0
              have e9 : u 9 = _ := d9_1 rfl
              clear d9_1
              go_simp
              try rfl
            conv => arg 8; simp only [List.cons_append, List.nil_append]
            apply each_read (fun _ => Below.refl _ _) rfl
            · intro u wv hC hf
              have y0 := (hC.cell (World.block_lt_of_cell? _ _ hqc)).trans hqc
              have y1 := (hC.cell (World.block_lt_of_cell? _ _ cq1)).trans cq1
              obtain ⟨d0_0, d1_1, d0_2, d1_3, d2_4, d3_5, d4_6, d5_7, d6_8, d7_9, d8_10, d9_11, d10_12, -⟩ := hf
              have e0 : u 0 = _ := d0_0 rfl
              clear d0_0
              have e1 : u 1 = _ := d1_1 rfl
              clear d1_1
              clear d0_2
              clear d1_3
              have e2 : u 2 = _ := d2_4 rfl
              clear d2_4
              have e3 : u 3 = _ := d3_5 rfl
              clear d3_5
              have e4 : u 4 = _ := d4_6 rfl
              clear d4_6
              have e5 : u 5 = _ := d5_7 rfl
              clear d5_7
              have e6 : u 6 = _ := d6_8 rfl
              clear d6_8
              have e7 : u 7 = _ := d7_9 rfl
              clear d7_9
              have e8 : u 8 = _ := d8_10 rfl
              clear d8_10
              have e9 : u 9 = _ := d9_11 rfl
              clear d9_11
              have e10 : u 10 = _ := d10_12 rfl
              clear d10_12
              go_simp
              try rfl
            intro u wv hC hall
            obtain ⟨a0, a1, a2, a3, a4, a5, a6, a7, a8, a9, a10, a11, -⟩ := hall
            have e0 : u 0 = _ := a0
            clear a0
            have e1 : u 1 = _ := a1
            clear a1
            have e2 : u 2 = _ := a2
            clear a2
            have e3 : u 3 = _ := a3
            clear a3
            have e4 : u 4 = _ := a4
            clear a4
            have e5 : u 5 = _ := a5
            clear a5
            have e6 : u 6 = _ := a6
            clear a6
            have e7 : u 7 = _ := a7
            clear a7
            have e8 : u 8 = _ := a8
            clear a8
            have e9 : u 9 = _ := a9
            clear a9
            have e10 : u 10 = _ := a10
            clear a10
            have e11 : u 11 = _ := a11
            clear a11
            change wpList _ _ _ (List.drop 12 _) _ _
            simp only [List.drop_succ_cons, List.drop_zero]
            simp only [e0, e1, e2, e3, e4, e5, e6, e7, e8, e9, e10, e11]
            clear e0 e1 e2 e3 e4 e5 e6 e7 e8 e9 e10 e11
            have y0 := (hC.cell (World.block_lt_of_cell? _ _ cn)).trans cn
            have yf : wv.frozen? ⟨g0, nx, none⟩ = false := (HS5.out.later hC).row.frozenAt nx
            have HS6 := Lib.hid (HS5.out.later hC)
            have HNEW6 := Lib.hid (fun w4 v4 ho hg => HS6.out.newE (x := nthS S2 q ++ letterN j) (w4 := w4) (v4 := v4) HZ4.out hlt rfl HNXE.out hnm HH.out rfl ho hg)
            clear HOLD HHY cn cq1 fn hqc
            go_upto_region 12 with fail
            have HQW : Hid (∀ o : Obj, ownsOff ((wv.setCell ⟨g0, nx, none⟩ (.string (nthS S2 q ++ letterN j))).alloc o) w1.heap.size 3 1 (.slice (some ⟨gq, oq, none⟩) (Qr.length + 1) cq) (Qr.length + 1) (intVals ((q :: Qr).map Int.ofNat))) := Lib.hid (fun o => HS6.out.queSet nx _ o)
            have HSZ6 : Hid (w1.heap.size ≤ (wv.setCell ⟨g0, nx, none⟩ (.string (nthS S2 q ++ letterN j))).heap.size) := Lib.hid (by simp; exact HS6.out.below.size)
            clear y0 yf
            generalize hX : nthS S2 q ++ letterN j = X at *
            clear hX n1
            generalize wv.setCell ⟨g0, nx, none⟩ (.string X) = wS at *
            have hq40 : Qr.length + 1 ≤ 40 := by have h1 := HS6.out.sh.few; simp only [List.length_append, List.length_cons] at h1; omega
            go_wp2_with (at_builtin; refine wpList_append_off rfl (.tmp 52) (.tmp 54) rfl Tryz.underlying23 Tryz.infoInt rfl (by decide) rfl (HQW.out _) (by simp; have := HSZ6.out; omega) rfl (src_of Tryz.underlying23 (Src.lit (w := wS) (T := 3) (c := 1) (m := 1) [.int .i64 (nx : Nat)]) rfl (fun u hu => by rw [List.mem_singleton.1 hu]; rfl)) (by unfold maxLen; omega) (by omega) ?_)
            intro v4 w7 ho7 hg7
            have HS7 := Lib.hid (HNEW6.out w7 v4 ho7 hg7)
            obtain ⟨a7, c7, rfl⟩ := ho7.form
            clear ho7 hg7 HQW HS6 HNEW6
            go_wp2_with fail
            go_roundw
            case rel => exact ⟨_, Qr ++ [nx], j + 1, a7, c7, by omega, by go_num, by rw [List.length_append]; rfl, by rw [List.length_append]; exact HS7, Lib.hid (by have := HLE.out; have := HY.out; rw [List.length_append, List.length_singleton]; omega)⟩
            case measure => simp [intOf]; omega
        · obtain rfl : j = zn.length := by omega
          obtain ⟨gq, oq, rfl, hq0⟩ := que_head HS.out.que
          have HLF := Lib.hid HS.out.left
          by_cases hc1 : cq = 1
          · subst hc1
            have hr0 : Qr.length = 0 := by
              rcases HS.out.que.2 with ⟨hv, h0⟩ | ⟨g, o, cap, cur, hv, _, _, hn, _⟩
              · simp at hv
              · simp only [Value.slice.injEq] at hv
                omega
            obtain rfl : Qr = [] := List.eq_nil_of_length_eq_zero hr0
            have HN : Hid (ShSt w1 wr g0 c0 m (.slice (some ⟨gq, oq, none⟩) 0 0) ln zn S2 (D ++ [q]) [] 0) := Lib.hid ⟨HS.out.below, HS.out.row, HS.out.que.none_left, HS.out.sh.next⟩
            simp only [List.length_nil, Nat.zero_add]
            clear hr0
            go_wp2_with fail
            go_roundw
            case rel => exact ⟨S2, D ++ [q], [], HN⟩
            case measure => rw [HLF.out, HWE.out]; have h1 := hM0.out; have h2 := HLE.out; simp only [List.length_nil] at h2; simp only [lenOf]; omega
          · have hc2 : (1 : Int) < (cq : Int) := by
              have : 1 ≤ cq := by
                rcases HS.out.que.2 with ⟨hv, h0⟩ | ⟨g, o, cap, cur, hv, _, _, hn, _⟩
                · simp at hv
                · simp only [Value.slice.injEq] at hv
                  omega
              omega
            have hc3 : ¬ (cq : Int) = 1 := by omega
            have HN : Hid (ShSt w1 wr g0 c0 m (.slice (some ⟨gq, oq + 1, none⟩) Qr.length (cq - 1)) ln zn S2 (D ++ [q]) Qr 0) := Lib.hid ⟨HS.out.below, HS.out.row, HS.out.que.tail (x := [.int .i64 ((q : Nat) : Int)]) rfl, HS.out.sh.next⟩
            go_wp2_with fail
            go_roundw
            case rel => exact ⟨S2, D ++ [q], Qr, HN⟩
            case measure => rw [HLF.out, HWE.out]; have h1 := hM0.out; have h2 := HLE.out; simp only [lenOf]; omega
end Go.Proofs.YtmgdglghjlggnaaGreat
namespace Go.Proofs.YtmgdglghjlggnaaGreat
open Go.RowKit
set_option linter.unusedVariables false
end Go.Proofs.YtmgdglghjlggnaaGreat
namespace Go.Proofs.YtmgdglghjlggnaaGreat
open Go.RowKit
set_option linter.unusedVariables false
/-- the inverse of an element, or -1 -/
def invB (m : Nat) (ln : List Nat) (i k : Nat) : Bool := decide (tm m ln i k = 0) && decide (tm m ln k i = 0)
def invF (m : Nat) (ln : List Nat) (i : Nat) : Int := match (List.range m).find? (invB m ln i) with | some k => (k : Nat) | none => -1
theorem invB_un (m : Nat) (ln : List Nat) (i k : Nat) : invB m ln i k = !unB m ln i k := by simp [invB, unB]
theorem invF_unit (m : Nat) (ln : List Nat) (i : Nat) : decide (0 ≤ invF m ln i) = isUnit m ln i := by
  unfold invF isUnit
  cases h : (List.range m).find? (invB m ln i)
  · rw [List.find?_eq_none] at h
    have : (List.range m).all (unB m ln i) = true := all_range.2 fun k hk => by
      have := h k (List.mem_range.2 hk)
      rw [invB_un] at this
      simpa using this
    rw [this]; rfl
  · rename_i k
    have h1 := List.find?_some h
    have h2 := List.mem_of_find?_eq_some h
    have : (List.range m).all (unB m ln i) = false := all_range_false (List.mem_range.1 h2) (by rw [invB_un] at h1; simpa using h1)
    rw [this]; simp
theorem invF_lt {m : Nat} {ln : List Nat} {i : Nat} : invF m ln i = -1 ∨ ∃ k : Nat, invF m ln i = (k : Nat) ∧ k < m ∧ invB m ln i k = true := by
  unfold invF
  cases h : (List.range m).find? (invB m ln i)
  · left; rfl
  · rename_i k
    right
    exact ⟨k, rfl, List.mem_range.1 (List.mem_of_find?_eq_some h), List.find?_some h⟩
theorem thoseL_yes {m : Nat} {l : List Int} {p : Nat → Bool} (h : tabB (m : Nat) l = true) : thoseL (m : Nat) l p = listTo p m := by unfold thoseL; rw [h]; rfl
end Go.Proofs.YtmgdglghjlggnaaGreat
namespace Go.Proofs.YtmgdglghjlggnaaGreat
open Go.RowKit
set_option linter.unusedVariables false
/-- more pigeons than holes -/
theorem php : ∀ (m : Nat) (f : Nat → Nat), (∀ i, i ≤ m → f i < m) → ∃ i j, i < j ∧ j ≤ m ∧ f i = f j
  | 0, f, h => absurd (h 0 (Nat.le_refl _)) (Nat.not_lt_zero _)
  | m + 1, f, h => by
    by_cases he : ∃ i, i ≤ m ∧ f i = f (m + 1)
    · obtain ⟨i, hi, e⟩ := he
      exact ⟨i, m + 1, by omega, Nat.le_refl _, e⟩
    · have hne : ∀ i, i ≤ m → f i ≠ f (m + 1) := fun i hi e => he ⟨i, hi, e⟩
      obtain ⟨i, j, hij, hj, e⟩ := php m (fun i => if f i = m then f (m + 1) else f i) (fun i hi => by
        have h1 := h i (by omega)
        have h2 := h (m + 1) (Nat.le_refl _)
        have h3 := hne i hi
        by_cases e : f i = m
        · simp only [e, if_true]; omega
        · simp only [e, if_false]; omega)
      have h1 := hne i (by omega)
      have h2 := hne j hj
      refine ⟨i, j, hij, by omega, ?_⟩
      by_cases e1 : f i = m <;> by_cases e2 : f j = m <;> simp [e1, e2] at e <;> omega
/-- the powers of an element -/
def pw (m : Nat) (ln : List Nat) (i : Nat) : Nat → Nat
  | 0 => 0
  | n + 1 => tm m ln (pw m ln i n) i
theorem pw_zero (m : Nat) (ln : List Nat) (i : Nat) : pw m ln i 0 = 0 := rfl
theorem pw_succ (m : Nat) (ln : List Nat) (i n : Nat) : pw m ln i (n + 1) = tm m ln (pw m ln i n) i := rfl
theorem Tb.pw_lt {m : Nat} {ln : List Nat} (h : Tb m ln) {i : Nat} (hi : i < m) : ∀ n, pw m ln i n < m
  | 0 => h.lo
  | n + 1 => h.tm_lt (h.pw_lt hi n) hi
theorem TabOk.pw_add {m : Nat} {ln : List Nat} (h : TabOk m ln) {i : Nat} (hi : i < m) (a : Nat) : ∀ b, pw m ln i (a + b) = tm m ln (pw m ln i a) (pw m ln i b)
  | 0 => by rw [Nat.add_zero, pw_zero, h.right _ (h.pw_lt hi a)]
  | b + 1 => by
    rw [← Nat.add_assoc, pw_succ, h.pw_add hi a b, pw_succ, h.assoc _ _ _ (h.pw_lt hi a) (h.pw_lt hi b) hi]
/-- the power n was there before -/
def repB (m : Nat) (ln : List Nat) (i n : Nat) : Bool := (List.range n).any fun k => decide (pw m ln i k = pw m ln i n)
theorem repB_iff {m : Nat} {ln : List Nat} {i n : Nat} : repB m ln i n = true ↔ ∃ k, k < n ∧ pw m ln i k = pw m ln i n := by simp [repB]
theorem Tb.rep {m : Nat} {ln : List Nat} (h : Tb m ln) {i : Nat} (hi : i < m) : ∃ n, n ≤ m ∧ repB m ln i n = true := by
  obtain ⟨k, n, hk, hn, e⟩ := php m (pw m ln i) (fun n _ => h.pw_lt hi n)
  exact ⟨n, hn, repB_iff.2 ⟨k, hk, e⟩⟩
/-- the first number that has a property, of those up to m -/
def firstN (p : Nat → Bool) (m : Nat) : Nat := ((List.range (m + 1)).find? p).getD 0
theorem firstN_spec {p : Nat → Bool} {m n : Nat} (hn : n ≤ m) (hp : p n = true) : p (firstN p m) = true ∧ firstN p m ≤ n ∧ ∀ z, z < firstN p m → p z = false := by
  unfold firstN
  cases h : (List.range (m + 1)).find? p
  · rw [List.find?_eq_none] at h
    have := h n (by simp; omega)
    simp [hp] at this
  · rename_i k
    rw [List.find?_eq_some_iff_getElem] at h
    obtain ⟨h1, j, hj, h2, h3⟩ := h
    simp only [List.getElem_range] at h2 h3
    subst h2
    simp only [Option.getD_some]
    refine ⟨h1, ?_, fun z hz => by simpa using h3 z hz⟩
    rcases Nat.lt_or_ge n j with hlt | hge
    · have := h3 n hlt
      simp [hp] at this
    · exact hge
def repN (m : Nat) (ln : List Nat) (i : Nat) : Nat := firstN (repB m ln i) m
def repK (m : Nat) (ln : List Nat) (i : Nat) : Nat := firstN (fun k => decide (pw m ln i k = pw m ln i (repN m ln i))) m
theorem Tb.repN_le {m : Nat} {ln : List Nat} (h : Tb m ln) {i : Nat} (hi : i < m) : repN m ln i ≤ m := by
  obtain ⟨n, hn, hp⟩ := h.rep hi
  exact Nat.le_trans (firstN_spec hn hp).2.1 hn
theorem Tb.repN_rep {m : Nat} {ln : List Nat} (h : Tb m ln) {i : Nat} (hi : i < m) : repB m ln i (repN m ln i) = true := by
  obtain ⟨n, hn, hp⟩ := h.rep hi
  exact (firstN_spec hn hp).1
theorem Tb.repN_min {m : Nat} {ln : List Nat} (h : Tb m ln) {i : Nat} (hi : i < m) {z : Nat} (hz : z < repN m ln i) : repB m ln i z = false := by
  obtain ⟨n, hn, hp⟩ := h.rep hi
  exact (firstN_spec hn hp).2.2 z hz
theorem Tb.repK_spec {m : Nat} {ln : List Nat} (h : Tb m ln) {i : Nat} (hi : i < m) : repK m ln i < repN m ln i ∧ pw m ln i (repK m ln i) = pw m ln i (repN m ln i) ∧ ∀ z, z < repK m ln i → pw m ln i z ≠ pw m ln i (repN m ln i) := by
  obtain ⟨k, hk, e⟩ := repB_iff.1 (h.repN_rep hi)
  have h1 := firstN_spec (p := fun k => decide (pw m ln i k = pw m ln i (repN m ln i))) (m := m) (n := k) (by have := h.repN_le hi; omega) (by simpa using e)
  refine ⟨?_, by simpa [repK] using h1.1, fun z hz => by simpa using h1.2.2 z hz⟩
  have : repK m ln i ≤ k := h1.2.1
  omega
/-- a group -/
structure Grp (m : Nat) (ln : List Nat) : Prop extends TabOk m ln where
  unit : ∀ i, i < m → isUnit m ln i = true
theorem Grp.inv {m : Nat} {ln : List Nat} (h : Grp m ln) {i : Nat} (hi : i < m) : ∃ k, k < m ∧ tm m ln i k = 0 ∧ tm m ln k i = 0 ∧ invF m ln i = (k : Nat) := by
  have h1 := h.unit i hi
  rw [← invF_unit] at h1
  rcases invF_lt (m := m) (ln := ln) (i := i) with h2 | ⟨k, h2, h3, h4⟩
  · rw [h2] at h1; simp at h1
  · simp [invB] at h4
    exact ⟨k, h3, h4.1, h4.2, h2⟩
theorem Grp.cancel {m : Nat} {ln : List Nat} (h : Grp m ln) {x a b : Nat} (hx : x < m) (ha : a < m) (hb : b < m) (e : tm m ln x a = tm m ln x b) : a = b := by
  obtain ⟨k, hk, _, e2, _⟩ := h.inv hx
  have h1 := h.assoc k x a hk hx ha
  have h2 := h.assoc k x b hk hx hb
  rw [e2, h.left a ha] at h1
  rw [e2, h.left b hb] at h2
  rw [h1, h2, e]
theorem Grp.repK_zero {m : Nat} {ln : List Nat} (h : Grp m ln) {i : Nat} (hi : i < m) : repK m ln i = 0 := by
  obtain ⟨h1, h2, h3⟩ := h.repK_spec hi
  have e : pw m ln i (repN m ln i) = tm m ln (pw m ln i (repK m ln i)) (pw m ln i (repN m ln i - repK m ln i)) := by
    rw [← h.pw_add hi]; congr 1; omega
  have h4 : pw m ln i (repN m ln i - repK m ln i) = 0 := by
    refine h.cancel (h.pw_lt hi (repK m ln i)) (h.pw_lt hi _) h.lo ?_
    rw [← e, ← h2, h.right _ (h.pw_lt hi _)]
  rcases Nat.eq_zero_or_pos (repK m ln i) with h5 | h5
  · exact h5
  · have h6 := h.repN_min hi (z := repN m ln i - repK m ln i) (by omega)
    have h7 : repB m ln i (repN m ln i - repK m ln i) = true := repB_iff.2 ⟨0, by omega, by rw [h4]; rfl⟩
    rw [h7] at h6
    cases h6
/-- the order of an element of a group: the first power that is the identity -/
theorem Grp.order {m : Nat} {ln : List Nat} (h : Grp m ln) {i : Nat} (hi : i < m) : 1 ≤ repN m ln i ∧ pw m ln i (repN m ln i) = 0 ∧ ∀ n, 1 ≤ n → n < repN m ln i → pw m ln i n ≠ 0 := by
  have h0 := h.repK_zero hi
  obtain ⟨h1, h2, _⟩ := h.repK_spec hi
  rw [h0] at h1 h2
  refine ⟨by omega, h2.symm, fun n hn hlt e => ?_⟩
  have h6 := h.repN_min hi (z := n) hlt
  have h7 : repB m ln i n = true := repB_iff.2 ⟨0, by omega, by rw [e]; rfl⟩
  rw [h7] at h6
  cases h6
end Go.Proofs.YtmgdglghjlggnaaGreat
namespace Go.Proofs.YtmgdglghjlggnaaGreat
open Go.RowKit
set_option linter.unusedVariables false
set_option maxHeartbeats 400000 in
theorem has_any (m : Nat) (i : Int) (v : Value) (w : World) (hm0 : 1 ≤ m) (hm : m ≤ 40) :
    Calls Tryz.prog 33 #[.agg #[.int .i64 m, v], .int .i64 i] w fun e w' => e = .returned (.bool (inB i 0 ((m : Int) - 1))) ∧ Below w.heap.size w w' := by
  go_enter Tryz.func33, Tryz.ntmps33
  go_wp2_with fail
  refine (within_any _ _ _ _).mono ?_
  rintro e w2 ⟨rfl, rfl⟩
  go_wp2_with fail
  go_ret
  exact ⟨rfl, (Below.refl _ _).alloc (Nat.le_refl _) _⟩
end Go.Proofs.YtmgdglghjlggnaaGreat
