/-
  The loops of words, of the reference.
-/
import Derived.Test.YtklbehapbchnaaaDoorFol01
import Derived.Test.YtklbehapbchnaaaDoorFol06
namespace Go.Proofs.YtklbehapbchnaaaDoor
open Go.RowKit
set_option linter.unusedVariables false
/-- the arcs while they are folded -/
def FarS (F G : List Arc3) : Prop := ∃ r, FoldS F r ∧ G = F.map (renA r)
theorem FarS.start (F : List Arc3) : FarS F F := ⟨id, FoldS.start F, by
  have e : renA id = id := by funext a; rfl
  rw [e, List.map_id]⟩
/-- two vertices at which arcs meet -/
def MetA (G : List Arc3) (v w : Nat) : Prop := ∃ a ∈ G, ∃ b ∈ G, a.2.2 = b.2.2 ∧ v ≠ w ∧ ((a.1 = b.1 ∧ a.2.1 = v ∧ b.2.1 = w) ∨ (a.2.1 = b.2.1 ∧ a.1 = v ∧ b.1 = w))
theorem mgV_lt {v w : Nat} (h : v ≠ w) : mgV v w v < v ∨ mgV v w w < w := by
  unfold mgV
  rcases Nat.lt_or_gt_of_ne h with h | h
  · right
    rw [if_pos (by omega)]; omega
  · left
    rw [if_pos (by omega)]; omega
theorem FarS.merge {F G : List Arc3} (h : FarS F G) {v w : Nat} (hm : MetA G v w) : FarS F (G.map (renA (mgV v w))) ∧ endS (G.map (renA (mgV v w))) < endS G := by
  obtain ⟨r, hr, rfl⟩ := h
  obtain ⟨a, ha, b, hb, hl, hne, hc⟩ := hm
  obtain ⟨a', ha', ea⟩ := List.mem_map.1 ha
  obtain ⟨b', hb', eb⟩ := List.mem_map.1 hb
  have hl' : a'.2.2 = b'.2.2 := by rw [← ea, ← eb] at hl; exact hl
  have hcon : FoldC F v w := by
    rcases hc with ⟨h1, h2, h3⟩ | ⟨h1, h2, h3⟩
    · rw [← ea, ← eb] at h1
      have := hr.fwd ha' hb' hl' h1
      rw [← h2, ← h3, ← ea, ← eb]; exact this
    · rw [← ea, ← eb] at h1
      have := hr.bwd ha' hb' hl' h1
      rw [← h2, ← h3, ← ea, ← eb]; exact this
  refine ⟨⟨fun x => mgV v w (r x), hr.merge hcon, ren_ren _ _ _⟩, ?_⟩
  rcases mgV_lt hne with h | h
  · refine endS_lt (fun x => mgV_le v w x) ha ?_
    rcases hc with ⟨h1, h2, h3⟩ | ⟨h1, h2, h3⟩
    · right; rw [h2]; exact h
    · left; rw [h2]; exact h
  · refine endS_lt (fun x => mgV_le v w x) hb ?_
    rcases hc with ⟨h1, h2, h3⟩ | ⟨h1, h2, h3⟩
    · right; rw [h3]; exact h
    · left; rw [h3]; exact h
theorem FarS.done {F G : List Arc3} (h : FarS F G) (hd : ∀ a ∈ G, ∀ b ∈ G, meetA a b = false) : ∃ r, FoldS F r ∧ Shut F r ∧ G = F.map (renA r) := by
  obtain ⟨r, hr, rfl⟩ := h
  exact ⟨r, hr, shut_of hd, rfl⟩
/-- how far two loops have looked for arcs that meet -/
def NoMeet (G : List Arc3) (i j : Nat) : Prop := ∀ i' j' (h : i' < G.length) (h' : j' < G.length), j' < i' → (i' < i ∨ i' = i ∧ j' < j) → meetA G[i'] G[j'] = false
theorem NoMeet.start (G : List Arc3) : NoMeet G 0 0 := fun i' j' _ _ _ h => by omega
theorem NoMeet.row {G : List Arc3} {i : Nat} (h : NoMeet G i i) : NoMeet G (i + 1) 0 := fun i' j' a b c d => h i' j' a b c (by omega)
theorem NoMeet.step {G : List Arc3} {i j : Nat} (h : NoMeet G i j) (hi : i < G.length) (hj : j < G.length) (hm : meetA G[i] G[j] = false) : NoMeet G i (j + 1) := fun i' j' a b c d => by
  by_cases e : i' = i ∧ j' = j
  · obtain ⟨rfl, rfl⟩ := e; exact hm
  · exact h i' j' a b c (by omega)
theorem meetA_self (a : Arc3) : meetA a a = false := by unfold meetA; simp
theorem NoMeet.all {G : List Arc3} {j : Nat} (h : NoMeet G G.length j) : ∀ a ∈ G, ∀ b ∈ G, meetA a b = false := fun a ha b hb => by
  obtain ⟨i, hi, rfl⟩ := List.mem_iff_getElem.1 ha
  obtain ⟨k, hk, rfl⟩ := List.mem_iff_getElem.1 hb
  rcases Nat.lt_trichotomy k i with e | e | e
  · exact h i k hi hk e (.inl hi)
  · subst e; exact meetA_self _
  · rw [meet_symm]; exact h k i hk hi e (.inl hk)
theorem meetA_far {a b : Arc3} (h : a.2.2 ≠ b.2.2) : meetA a b = false := by unfold meetA; rw [beq_eq_false_iff_ne.2 h]; rfl
theorem meetA_no {a b : Arc3} (h1 : ¬ (a.1 = b.1 ∧ a.2.1 ≠ b.2.1)) (h2 : ¬ (a.2.1 = b.2.1 ∧ a.1 ≠ b.1)) : meetA a b = false := by
  unfold meetA
  have e1 : (a.1 == b.1 && a.2.1 != b.2.1) = false := by
    rw [Bool.and_eq_false_iff, beq_eq_false_iff_ne, bne_eq_false_iff_eq]
    by_cases e : a.1 = b.1
    · right; exact Classical.byContradiction fun h => h1 ⟨e, h⟩
    · left; exact e
  have e2 : (a.2.1 == b.2.1 && a.1 != b.1) = false := by
    rw [Bool.and_eq_false_iff, beq_eq_false_iff_ne, bne_eq_false_iff_eq]
    by_cases e : a.2.1 = b.2.1
    · right; exact Classical.byContradiction fun h => h2 ⟨e, h⟩
    · left; exact e
  rw [e1, e2]; simp
theorem MetA.fwd {G : List Arc3} {i j : Nat} (hi : i < G.length) (hj : j < G.length) (hl : G[i].2.2 = G[j].2.2) (h1 : G[i].1 = G[j].1) (h2 : G[i].2.1 ≠ G[j].2.1) : MetA G G[i].2.1 G[j].2.1 := ⟨G[i], List.getElem_mem hi, G[j], List.getElem_mem hj, hl, h2, .inl ⟨h1, rfl, rfl⟩⟩
theorem MetA.bwd {G : List Arc3} {i j : Nat} (hi : i < G.length) (hj : j < G.length) (hl : G[i].2.2 = G[j].2.2) (h1 : G[i].2.1 = G[j].2.1) (h2 : G[i].1 ≠ G[j].1) : MetA G G[i].1 G[j].1 := ⟨G[i], List.getElem_mem hi, G[j], List.getElem_mem hj, hl, h2, .inr ⟨h1, rfl, rfl⟩⟩
/-- equal neighbours left out of the first j -/
def ddN (L : List Arc3) : Nat → List Arc3
  | 0 => []
  | j + 1 => if 0 < j ∧ L[j]? = L[j - 1]? then ddN L j else ddN L j ++ (L[j]?).toList
theorem ddN_same {L : List Arc3} {j : Nat} (h0 : 0 < j) (h : L[j]? = L[j - 1]?) : ddN L (j + 1) = ddN L j := by
  show (if _ then _ else _) = _
  rw [if_pos ⟨h0, h⟩]
theorem ddN_new {L : List Arc3} {j : Nat} (hj : j < L.length) (h : ¬ (0 < j ∧ L[j]? = L[j - 1]?)) : ddN L (j + 1) = ddN L j ++ [L[j]] := by
  show (if _ then _ else _) = _
  rw [if_neg h, List.getElem?_eq_getElem hj]; rfl
/-- weakly ascending -/
abbrev WkA (l : List Arc3) : Prop := l.Pairwise fun a b => ltA b a = false
theorem ddN_ok {L : List Arc3} (hw : WkA L) : ∀ j, j ≤ L.length → SortA (ddN L j) ∧ (∀ a, a ∈ ddN L j ↔ a ∈ L.take j) ∧ (0 < j → (ddN L j).getLast? = L[j - 1]?)
  | 0, _ => ⟨List.Pairwise.nil, fun a => by simp [ddN], fun h => by omega⟩
  | j + 1, hj => by
    obtain ⟨h1, h2, h3⟩ := ddN_ok hw j (by omega)
    have htk : L.take (j + 1) = L.take j ++ [L[j]] := List.take_succ_eq_append_getElem (by omega)
    by_cases hc : 0 < j ∧ L[j]? = L[j - 1]?
    · rw [ddN_same hc.1 hc.2]
      refine ⟨h1, fun a => ?_, fun _ => ?_⟩
      · rw [h2, htk, List.mem_append, List.mem_singleton]
        constructor
        · exact .inl
        · rintro (h | rfl)
          · exact h
          · have e := hc.2
            rw [List.getElem?_eq_getElem (by omega), List.getElem?_eq_getElem (by omega)] at e
            have e2 : L[j] = L[j - 1] := Option.some.inj e
            rw [e2]
            exact List.mem_take_iff_getElem.2 ⟨j - 1, by omega, rfl⟩
      · rw [h3 hc.1, show j + 1 - 1 = j by omega]; exact hc.2.symm
    · rw [ddN_new (by omega) hc]
      refine ⟨?_, fun a => ?_, fun _ => ?_⟩
      · rw [SortA, List.pairwise_append]
        refine ⟨h1, List.pairwise_singleton _ _, fun a ha b hb => ?_⟩
        rw [List.mem_singleton.1 hb]
        -- a is one of the first j; the last of them is not L[j]
        obtain ⟨i, hi, rfl⟩ := List.mem_take_iff_getElem.1 ((h2 a).1 ha)
        have hij : i < j := by omega
        have hwi : ltA L[j] L[i] = false := List.pairwise_iff_getElem.1 hw i j (by omega) (by omega) hij
        cases hlt : ltA L[i] L[j] with
        | true => rfl
        | false =>
          exfalso
          have e : L[i] = L[j] := ltA_tot hlt hwi
          refine hc ⟨by omega, ?_⟩
          rw [List.getElem?_eq_getElem (by omega), List.getElem?_eq_getElem (by omega)]
          have e2 : L[j - 1] = L[j] := by
            by_cases ei : i = j - 1
            · subst ei; exact e
            · have w1 : ltA L[j - 1] L[i] = false := List.pairwise_iff_getElem.1 hw i (j - 1) (by omega) (by omega) (by omega)
              have w2 : ltA L[j] L[j - 1] = false := List.pairwise_iff_getElem.1 hw (j - 1) j (by omega) (by omega) (by omega)
              rw [e] at w1
              exact ltA_tot w1 w2
          rw [e2]
      · rw [htk, List.mem_append, List.mem_append, h2]
      · rw [show j + 1 - 1 = j by omega, List.getElem?_eq_getElem (by omega)]; simp
theorem ddN_all {L : List Arc3} (hw : WkA L) : SortA (ddN L L.length) ∧ ∀ a, a ∈ ddN L L.length ↔ a ∈ L := by
  obtain ⟨h1, h2, _⟩ := ddN_ok hw L.length (Nat.le_refl _)
  rw [List.take_length] at h2
  exact ⟨h1, h2⟩
end Go.Proofs.YtklbehapbchnaaaDoor
namespace Go.Proofs.YtklbehapbchnaaaDoor
open Go.RowKit
set_option linter.unusedVariables false
/-- what is asked of generators and words -/
structure OkFW (g : Nat) (ws : List ByteArray) : Prop where
  g1 : 1 ≤ g
  g2 : g ≤ 2
  len : ws.length ≤ 6
  ok : ∀ j, j < ws.length → freeOkB (g : Nat) (nthS ws j) = true
abbrev flo (g : Nat) (ws : List ByteArray) : List Arc3 := (flF g ws ws.length).1
theorem OkFW.flow {g : Nat} {ws : List ByteArray} (h : OkFW g ws) : FlOk g (flo g ws) (flF g ws ws.length).2 0 ∧ (flo g ws).length ≤ 96 ∧ 1 ≤ (flF g ws ws.length).2 ∧ (flF g ws ws.length).2 ≤ 91 := by
  obtain ⟨h1, h2, h3⟩ := flF_ok (g := g) h.ok ws.length (Nat.le_refl _)
  have hl := h.len
  exact ⟨h1, by show (flF g ws ws.length).1.length ≤ 96; omega, h1.n1, by omega⟩
structure FoldR (g : Nat) (ws : List ByteArray) (V : Nat) (M : List Arc3) : Prop where
  ex : ∃ r L ord k, FoldS (flo g ws) r ∧ Shut (flo g ws) r ∧ (∀ a, a ∈ L ↔ a ∈ (flo g ws).map (renA r)) ∧ SortA L ∧ Bfs g L ord k 0 ∧ ¬ k < ord.length ∧ V = ord.length ∧ M = (L.map (renA ord.idxOf)).foldl putA []
theorem FoldR.uniq {g : Nat} {ws : List ByteArray} {V V' : Nat} {M M' : List Arc3} (h : FoldR g ws V M) (h' : FoldR g ws V' M') : V = V' ∧ M = M' := by
  obtain ⟨r, L, ord, k, a1, a2, a3, a4, a5, a6, a7, a8⟩ := h.ex
  obtain ⟨r', L', ord', k', b1, b2, b3, b4, b5, b6, b7, b8⟩ := h'.ex
  obtain rfl : r = r' := fold_uniq a1 b1 a2 b2
  obtain rfl : L = L' := sort_uniq a4 b4 (fun a => (a3 a).trans (b3 a).symm)
  obtain rfl : ord = ord' := a5.uniq b5 a6 b6
  exact ⟨a7.trans b7.symm, a8.trans b8.symm⟩
theorem FoldR.fok {g : Nat} {ws : List ByteArray} {V : Nat} {M : List Arc3} (h : FoldR g ws V M) (ho : OkFW g ws) : FokP g V M := by
  obtain ⟨r, L, ord, k, a1, a2, a3, a4, a5, a6, a7, a8⟩ := h.ex
  obtain ⟨f1, f2, f3, f4⟩ := ho.flow
  have := (fold_fok ho.g1 ho.g2 f3 (by omega) f1.rng f1.conn a1 a2 a3 a4 a5 a6).2
  rw [a7, a8]; exact this
theorem foldPut_len : ∀ (l l0 : List Arc3), (l.foldl putA l0).length ≤ l0.length + l.length
  | [], l0 => by simp
  | a :: l, l0 => by
    have ih := foldPut_len l (putA l0 a)
    have h := putA_len l0 a
    rw [List.foldl_cons, List.length_cons]
    omega
theorem FoldR.len {g : Nat} {ws : List ByteArray} {V : Nat} {M : List Arc3} (h : FoldR g ws V M) (ho : OkFW g ws) : M.length ≤ 96 := by
  obtain ⟨r, L, ord, k, a1, a2, a3, a4, a5, a6, a7, a8⟩ := h.ex
  obtain ⟨f1, f2, f3, f4⟩ := ho.flow
  have h1 := List.Nodup.length_le_of_subset a4.nodup (l₂ := (flo g ws).map (renA r)) (fun a ha => (a3 a).1 ha)
  have h2 := foldPut_len (L.map (renA ord.idxOf)) []
  rw [← a8] at h2
  simp only [List.length_map, List.length_nil] at h1 h2
  omega
/-- the first j arcs, renamed and put -/
def putTo (r : Nat → Nat) (F : List Arc3) (j : Nat) : List Arc3 := ((F.take j).map (renA r)).foldl putA []
theorem putTo_succ {r : Nat → Nat} {F : List Arc3} {j : Nat} (h : j < F.length) : putTo r F (j + 1) = putA (putTo r F j) (renA r F[j]) := by
  unfold putTo
  rw [List.take_succ_eq_append_getElem h, List.map_append, List.foldl_append]; rfl
theorem putTo_all (r : Nat → Nat) (F : List Arc3) : putTo r F F.length = (F.map (renA r)).foldl putA [] := by
  unfold putTo; rw [List.take_length]
theorem putTo_len (r : Nat → Nat) (F : List Arc3) (j : Nat) : (putTo r F j).length ≤ j := by
  unfold putTo
  have h := foldPut_len ((F.take j).map (renA r)) []
  simp only [List.length_map, List.length_nil, List.length_take] at h
  omega
theorem putTo_sort (r : Nat → Nat) (F : List Arc3) : SortA (putTo r F F.length) ∧ ∀ a, a ∈ putTo r F F.length ↔ a ∈ F.map (renA r) := by
  rw [putTo_all]
  obtain ⟨h1, h2⟩ := fold_putA (F.map (renA r)) [] List.Pairwise.nil
  exact ⟨h1, fun a => by rw [h2]; simp⟩
theorem putA_ne (L : List Arc3) (a : Arc3) : 0 < (putA L a).length := List.length_pos_of_mem (putA_mem.2 (.inr rfl))
end Go.Proofs.YtklbehapbchnaaaDoor
namespace Go.Proofs.YtklbehapbchnaaaDoor
open Go.RowKit
set_option linter.unusedVariables false
theorem u8_wrap {c : Nat} (h : c ≤ 255) : IntKind.u8.wrap (c : Int) = (c : Int) := by
  have : c < 256 := by omega
  simp [IntKind.wrap, IntKind.signed, IntKind.bits]
  omega
theorem ltN_at {s : ByteArray} {i : Nat} (h : i < s.size) : ltN s i = s[i].toNat - 97 := by
  unfold ltN
  have hil : i < s.data.toList.length := by rw [bszF]; exact h
  rw [List.getD_eq_getElem?_getD, List.getElem?_eq_getElem hil]
  rfl
theorem let_at {g : Nat} {s : ByteArray} (hl : ∀ x ∈ s.data.toList, letG g x.toNat) {i : Nat} (h : i < s.size) : letG g s[i].toNat := hl _ (by have := List.getElem_mem (l := s.data.toList) (n := i) (by simpa using h); rwa [Array.getElem_toList] at this)
def RetFl (g : Nat) (ws : List ByteArray) (w : World) (e : Ending) (w' : World) : Prop := ∃ v, e = .returned (.tuple #[v, .int .i64 (((flF g ws ws.length).2 : Nat) : Int)]) ∧ Bld 66 3 w w' v (flF g ws ws.length).1.length (arcC (flF g ws ws.length).1)
set_option maxRecDepth 20000 in
set_option maxHeartbeats 2000000 in
theorem l25Flower_any (g : Nat) (ws : List ByteArray) (a : Option Addr) (cap : Nat) (w : World) (hL : StrsIn w a ws) (hw : ∀ j, j < ws.length → freeOkB (g : Nat) (nthS ws j) = true) (h6 : ws.length ≤ 6) (hg1 : 1 ≤ g) (hg2 : g ≤ 2) :
    Calls Tryd.prog 39 #[.int .i64 (g : Nat), .slice a ws.length cap] w (RetFl g ws w) := by
  have HL := Lib.hid hL
  have HW := Lib.hid hw
  have HB0 : Hid (Bld 66 3 w (w.alloc (.cells #[] 66)) (.slice (some ⟨w.heap.size, 0, none⟩) 0 0) (flF g ws 0).1.length (arcC (flF g ws 0).1)) := Lib.hid (Bld.empty _ _ w)
  clear hL hw
  go_enter Tryd.func39, Tryd.ntmps39
  go_wp2_with fail
  go_loopw [6, 7, 18] (fun v6 v7 vj wr => ∃ j : Nat, j ≤ ws.length ∧ vj = .int .i64 (j : Nat) ∧ v7 = .int .i64 (((flF g ws j).2 : Nat) : Int) ∧ Hid (Bld 66 3 w wr v6 (flF g ws j).1.length (arcC (flF g ws j).1))) (fun _ _ vj _ => ws.length - (intOf vj).toNat)
  case atStart => exact ⟨0, Nat.zero_le _, rfl, rfl, HB0⟩
  case round =>
    clear HB0
    obtain ⟨j, hj, rfl, rfl, HB⟩ := hrel
    by_cases hjl : j < ws.length
    · obtain ⟨bl, off, rfl, _, hc⟩ := (HL.out.later HB.out.2).cell hjl
      have hcj := hc j hjl
      have hok := HW.out j hjl
      obtain ⟨_, hs16, hlet⟩ := freeOk_let hok
      obtain ⟨o1, o2, o3⟩ := flF_ok (g := g) HW.out j (by omega)
      have HF := Lib.hid (fun W => l24Form_any g (nthS ws j) W hok)
      have hz := frB_size g (nthS ws j) (nthS ws j).size
      have HNX : Hid (flF g ws (j + 1) = flW g (frB g (nthS ws j) (nthS ws j).size) (flF g ws j)) := Lib.hid rfl
      have hl2 : ∀ x ∈ (frB g (nthS ws j) (nthS ws j).size).data.toList, letG g x.toNat := fun x hx => by
        rw [frB_list] at hx
        exact hlet x (frL_mem hx)
      have hjb : 15 * j ≤ 75 := by omega
      obtain ⟨s, hs⟩ : ∃ s, frB g (nthS ws j) (nthS ws j).size = s := ⟨_, rfl⟩
      rw [hs] at HF hz HNX hl2
      obtain ⟨⟨F0, n0⟩, hst⟩ : ∃ st, flF g ws j = st := ⟨_, rfl⟩
      rw [hst] at HB HNX o1 o2 o3
      rw [hst]
      have HLT := Lib.hid hl2
      have HO := Lib.hid o1
      have ho2 : F0.length ≤ 16 * j := o2
      have ho3 : n0 ≤ 1 + 15 * j := o3
      generalize nthS ws j = w0 at *
      clear hok hlet hl2 o1 o2 o3 hst hs hc
      go_wp2_with fail
      refine (HF.out _).mono ?_
      rintro e w2 ⟨rfl, hb2⟩
      have HB2 : Hid (Bld 66 3 w w2 u6 (flS g s (F0, n0) 0).1.length (arcC (flS g s (F0, n0) 0).1)) := Lib.hid (HB.out.later hb2)
      clear hb2 HB HF hcj
      go_wp2_with fail
      generalize hWR : wr = wr0 at *
      clear hWR
      go_loopw [6, 7, 11, 12] (fun v6 v7 vu vi wr => ∃ i : Nat, i ≤ s.size ∧ vi = .int .i64 (i : Nat) ∧ v7 = .int .i64 (((flS g s (F0, n0) i).2.1 : Nat) : Int) ∧ vu = .int .i64 (((flS g s (F0, n0) i).2.2 : Nat) : Int) ∧ Hid (Bld 66 3 w wr v6 (flS g s (F0, n0) i).1.length (arcC (flS g s (F0, n0) i).1))) (fun _ _ _ vi _ => s.size - (intOf vi).toNat)
      case atStart => exact ⟨0, Nat.zero_le _, rfl, rfl, rfl, HB2⟩
      case round =>
        clear HB2
        obtain ⟨i, hi, rfl, rfl, rfl, HB⟩ := hrel
        obtain ⟨i1, i2, i3⟩ := flS_ok (F0 := F0) (n0 := n0) HO.out HLT.out i hi
        obtain ⟨⟨F, n, u⟩, hst⟩ : ∃ st, flS g s (F0, n0) i = st := ⟨_, rfl⟩
        rw [hst] at HB i1 i2 i3
        rw [hst]
        have HS1 := Lib.hid (flS_succ hst)
        have HST := Lib.hid hst
        have hF : F.length ≤ F0.length + i := Nat.le_of_eq i2
        have hn : n ≤ n0 + i := i3
        have hu : u < n := i1.u1
        clear i1 i2 i3 hst
        by_cases hil : i < s.size
        · have hii : (i : Int) < (s.size : Int) := by omega
          obtain ⟨m, hm⟩ : ∃ m, s.size = m + 1 := ⟨s.size - 1, by omega⟩
          have hsub : (s.size : Int) - 1 = (m : Int) := by omega
          have hwm : IntKind.i64.wrap (m : Int) = (m : Int) := IntWalk.i64_in _ ⟨by omega, by omega⟩
          have hlet := let_at HLT.out hil
          obtain ⟨hc1, hc2⟩ := hlet
          obtain ⟨c, hc⟩ : ∃ c, s[i].toNat - 97 = c := ⟨_, rfl⟩
          have HLC : Hid (ltN s i = c) := Lib.hid (by rw [ltN_at hil, hc])
          have hc97 : ((s[i].toNat : Nat) : Int) - 97 = (c : Int) := by omega
          have hcb : c < 2 * g := by omega
          have hw8 := u8_wrap (c := c) (by omega)
          have hwc : IntKind.i64.wrap (c : Int) = (c : Int) := IntWalk.i64_in _ ⟨by omega, by omega⟩
          have hwn : IntKind.i64.wrap ((n : Int) + 1) = (n : Int) + 1 := IntWalk.i64_in _ ⟨by omega, by omega⟩
          have HN2 : Hid (F.length + 1 ≤ maxLen) := Lib.hid (by unfold maxLen; omega)
          have HN3 : Hid ((F.length + 1) * 24 ≤ 140737488355328) := Lib.hid (by omega)
          by_cases hlt : i + 1 < s.size
          · have hmi0 : i < m := by omega
            have HM := Lib.hid hm
            clear hc hm hc1 hc2
            have hmi : (i : Int) < (m : Int) := by omega
            have HTO : Hid (toN s.size n i = n) := Lib.hid (by unfold toN; rw [if_pos (by omega)])
            have HUP : Hid (upN s.size n i = n + 1) := Lib.hid (by unfold upN; rw [if_pos (by omega)])
            by_cases hcg : c < g
            · have hci : (c : Int) < (g : Int) := by omega
              have HAR : Hid (arcV (arcOf g u (toN s.size n i) (ltN s i)) = [.int .i64 ((u : Nat) : Int), .int .i64 ((n : Nat) : Int), .int .i64 ((c : Nat) : Int)]) := Lib.hid (by rw [HTO.out, HLC.out]; unfold arcOf; rw [if_pos hcg]; rfl)
              have HN1 : Hid (∀ q ∈ arcV (arcOf g u (toN s.size n i) (ltN s i)), q.oneCell' = true) := Lib.hid (by rw [HAR.out]; simp [Value.oneCell'])
              rw [HAR.out] at HN1
              go_wp2_with (at_builtin; refine wpList_app1 rfl _ _ rfl Tryd.underlying46 Tryd.infoArc rfl (by decide) rfl HB.out rfl rfl HN1.out HN2.out HN3.out ?a1p)
              intro v5 w5 hb5
              have HB5 : Hid (Bld 66 3 w w5 v5 (flS g s (F0, n0) (i + 1)).1.length (arcC (flS g s (F0, n0) (i + 1)).1)) := Lib.hid (by
                rw [HS1.out]; show Bld _ _ _ _ _ (F ++ [_]).length (arcC (F ++ [_]))
                rw [arcC_app, List.length_append, HAR.out]; exact hb5)
              have HN5 : Hid ((flS g s (F0, n0) (i + 1)).2.1 = n + 1) := Lib.hid (by rw [HS1.out]; exact HUP.out)
              have HU5 : Hid ((flS g s (F0, n0) (i + 1)).2.2 = n) := Lib.hid (by rw [HS1.out]; exact HTO.out)
              clear hb5
              go_wp2_with fail
              go_roundw
              case rel => exact ⟨i + 1, by omega, by go_num, by rw [HN5.out]; go_num, by rw [HU5.out], HB5⟩
              case measure => simp [intOf]; omega
            · obtain ⟨d, hd⟩ : ∃ d, c - g = d := ⟨_, rfl⟩
              have hci : ¬ (c : Int) < (g : Int) := by omega
              have hdi : (c : Int) - (g : Int) = (d : Int) := by omega
              have hwd : IntKind.i64.wrap (d : Int) = (d : Int) := IntWalk.i64_in _ ⟨by omega, by omega⟩
              have HAR : Hid (arcV (arcOf g u (toN s.size n i) (ltN s i)) = [.int .i64 ((n : Nat) : Int), .int .i64 ((u : Nat) : Int), .int .i64 ((d : Nat) : Int)]) := Lib.hid (by rw [HTO.out, HLC.out]; unfold arcOf; rw [if_neg hcg, hd]; rfl)
              clear hd
              have HN1 : Hid (∀ q ∈ arcV (arcOf g u (toN s.size n i) (ltN s i)), q.oneCell' = true) := Lib.hid (by rw [HAR.out]; simp [Value.oneCell'])
              rw [HAR.out] at HN1
              go_wp2_with (at_builtin; refine wpList_app1 rfl _ _ rfl Tryd.underlying46 Tryd.infoArc rfl (by decide) rfl HB.out rfl rfl HN1.out HN2.out HN3.out ?a1n)
              intro v5 w5 hb5
              have HB5 : Hid (Bld 66 3 w w5 v5 (flS g s (F0, n0) (i + 1)).1.length (arcC (flS g s (F0, n0) (i + 1)).1)) := Lib.hid (by
                rw [HS1.out]; show Bld _ _ _ _ _ (F ++ [_]).length (arcC (F ++ [_]))
                rw [arcC_app, List.length_append, HAR.out]; exact hb5)
              have HN5 : Hid ((flS g s (F0, n0) (i + 1)).2.1 = n + 1) := Lib.hid (by rw [HS1.out]; exact HUP.out)
              have HU5 : Hid ((flS g s (F0, n0) (i + 1)).2.2 = n) := Lib.hid (by rw [HS1.out]; exact HTO.out)
              clear hb5
              go_wp2_with fail
              go_roundw
              case rel => exact ⟨i + 1, by omega, by go_num, by rw [HN5.out]; go_num, by rw [HU5.out], HB5⟩
              case measure => simp [intOf]; omega
          · have hmi0 : ¬ i < m := by omega
            have HM := Lib.hid hm
            clear hc hm hc1 hc2
            have hmi : ¬ (i : Int) < (m : Int) := by omega
            have HTO : Hid (toN s.size n i = 0) := Lib.hid (by unfold toN; rw [if_neg (by omega)])
            have HUP : Hid (upN s.size n i = n) := Lib.hid (by unfold upN; rw [if_neg (by omega)])
            by_cases hcg : c < g
            · have hci : (c : Int) < (g : Int) := by omega
              have HAR : Hid (arcV (arcOf g u (toN s.size n i) (ltN s i)) = [.int .i64 ((u : Nat) : Int), .int .i64 0, .int .i64 ((c : Nat) : Int)]) := Lib.hid (by rw [HTO.out, HLC.out]; unfold arcOf; rw [if_pos hcg]; rfl)
              have HN1 : Hid (∀ q ∈ arcV (arcOf g u (toN s.size n i) (ltN s i)), q.oneCell' = true) := Lib.hid (by rw [HAR.out]; simp [Value.oneCell'])
              rw [HAR.out] at HN1
              go_wp2_with (at_builtin; refine wpList_app1 rfl _ _ rfl Tryd.underlying46 Tryd.infoArc rfl (by decide) rfl HB.out rfl rfl HN1.out HN2.out HN3.out ?a2p)
              intro v5 w5 hb5
              have HB5 : Hid (Bld 66 3 w w5 v5 (flS g s (F0, n0) (i + 1)).1.length (arcC (flS g s (F0, n0) (i + 1)).1)) := Lib.hid (by
                rw [HS1.out]; show Bld _ _ _ _ _ (F ++ [_]).length (arcC (F ++ [_]))
                rw [arcC_app, List.length_append, HAR.out]; exact hb5)
              have HN5 : Hid ((flS g s (F0, n0) (i + 1)).2.1 = n) := Lib.hid (by rw [HS1.out]; exact HUP.out)
              have HU5 : Hid ((flS g s (F0, n0) (i + 1)).2.2 = 0) := Lib.hid (by rw [HS1.out]; exact HTO.out)
              clear hb5
              go_wp2_with fail
              go_roundw
              case rel => exact ⟨i + 1, by omega, by go_num, by rw [HN5.out], by rw [HU5.out]; rfl, HB5⟩
              case measure => simp [intOf]; omega
            · obtain ⟨d, hd⟩ : ∃ d, c - g = d := ⟨_, rfl⟩
              have hci : ¬ (c : Int) < (g : Int) := by omega
              have hdi : (c : Int) - (g : Int) = (d : Int) := by omega
              have hwd : IntKind.i64.wrap (d : Int) = (d : Int) := IntWalk.i64_in _ ⟨by omega, by omega⟩
              have HAR : Hid (arcV (arcOf g u (toN s.size n i) (ltN s i)) = [.int .i64 0, .int .i64 ((u : Nat) : Int), .int .i64 ((d : Nat) : Int)]) := Lib.hid (by rw [HTO.out, HLC.out]; unfold arcOf; rw [if_neg hcg, hd]; rfl)
              clear hd
              have HN1 : Hid (∀ q ∈ arcV (arcOf g u (toN s.size n i) (ltN s i)), q.oneCell' = true) := Lib.hid (by rw [HAR.out]; simp [Value.oneCell'])
              rw [HAR.out] at HN1
              go_wp2_with (at_builtin; refine wpList_app1 rfl _ _ rfl Tryd.underlying46 Tryd.infoArc rfl (by decide) rfl HB.out rfl rfl HN1.out HN2.out HN3.out ?a2n)
              intro v5 w5 hb5
              have HB5 : Hid (Bld 66 3 w w5 v5 (flS g s (F0, n0) (i + 1)).1.length (arcC (flS g s (F0, n0) (i + 1)).1)) := Lib.hid (by
                rw [HS1.out]; show Bld _ _ _ _ _ (F ++ [_]).length (arcC (F ++ [_]))
                rw [arcC_app, List.length_append, HAR.out]; exact hb5)
              have HN5 : Hid ((flS g s (F0, n0) (i + 1)).2.1 = n) := Lib.hid (by rw [HS1.out]; exact HUP.out)
              have HU5 : Hid ((flS g s (F0, n0) (i + 1)).2.2 = 0) := Lib.hid (by rw [HS1.out]; exact HTO.out)
              clear hb5
              go_wp2_with fail
              go_roundw
              case rel => exact ⟨i + 1, by omega, by go_num, by rw [HN5.out], by rw [HU5.out]; rfl, HB5⟩
              case measure => simp [intOf]; omega
        · obtain rfl : i = s.size := by omega
          have HN6 : Hid ((flF g ws (j + 1)).2 = n) := Lib.hid (by rw [HNX.out]; unfold flW; rw [HST.out])
          have HB6 : Hid (Bld 66 3 w wr u6 (flF g ws (j + 1)).1.length (arcC (flF g ws (j + 1)).1)) := Lib.hid (by rw [HNX.out]; unfold flW; rw [HST.out]; exact HB.out)
          go_wp2_with fail
          go_roundw
          case rel => exact ⟨j + 1, by omega, by go_num, by rw [HN6.out], HB6⟩
          case measure => simp [intOf]; omega
    · obtain rfl : j = ws.length := by omega
      have F : Hid (RetFl g ws w (.returned (.tuple #[u6, .int .i64 (((flF g ws ws.length).2 : Nat) : Int)])) wr) := Lib.hid ⟨u6, rfl, HB.out⟩
      go_wp2_with fail
      refine bodyPost_ret (v := .tuple #[u6, .int .i64 (((flF g ws ws.length).2 : Nat) : Int)]) ?_ rfl F.out
      simp [results, Tryd.results39, go_sem]
end Go.Proofs.YtklbehapbchnaaaDoor
