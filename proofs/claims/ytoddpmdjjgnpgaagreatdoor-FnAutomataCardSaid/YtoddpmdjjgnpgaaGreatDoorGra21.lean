/-
  The table of a complete system is a valid one: its words are the irreducible ones, and products are normal forms.
-/
import Derived.Test.YtoddpmdjjgnpgaaGreatDoorGra20
import Derived.Test.YtoddpmdjjgnpgaaGreatDoorGra07
import Derived.Test.YtoddpmdjjgnpgaaGreatDoorGra08
import Derived.Test.YtoddpmdjjgnpgaaGreatDoorGra13
import Derived.Test.YtoddpmdjjgnpgaaGreatDoorGra06
import Derived.IntWalk
import Derived.Test.YtoddpmdjjgnpgaaGreatDoorGra05
namespace Go.Proofs.YtoddpmdjjgnpgaaGreatDoor
open Go.RowKit Go.Maps
set_option linter.unusedVariables false
theorem Tab10.lt {w : World} (h : Tab10 w) : 5 < w.heap.size := by
  have hg : Tryz.prog.globalNamed "internal/strconv.uint64pow10" = some 5 := by kernel_rfl
  unfold Tab10 Lib.TabIs World.var? at h
  rw [hg] at h
  simp only [Option.bind_some] at h
  rcases Nat.lt_or_ge 5 w.heap.size with h' | h'
  · exact h'
  · rw [Array.getElem?_eq_none h'] at h; simp at h
end Go.Proofs.YtoddpmdjjgnpgaaGreatDoor
namespace Go.Proofs.YtoddpmdjjgnpgaaGreatDoor
open Go.RowKit
set_option linter.unusedVariables false
/-- what AllReduced is -/
def AllIs (k : Int) (R : List RulD) (L : List ByteArray) (f : Bool) : Prop :=
  (¬ (∃ c, CntIs k R c ∧ 0 ≤ c ∧ c ≤ 256) ∧ L = [] ∧ f = false) ∨
  ∃ (kn h : Nat), k = (kn : Int) ∧ HtIs R kn ⟨#[]⟩ (h : Int) ∧ (∃ c, CntIs k R c ∧ 0 ≤ c ∧ c ≤ 256) ∧ L = outTo R kn (h + 1) ∧ f = true ∧ L.length ≤ 256
theorem AllIs.few {k : Int} {R : List RulD} {L : List ByteArray} {f : Bool} (h : AllIs k R L f) : L.length ≤ 256 := by
  rcases h with ⟨_, rfl, _⟩ | ⟨_, _, _, _, _, _, _, h⟩
  · simp
  · exact h
theorem AllIs.uniq {k : Int} {R : List RulD} {L L' : List ByteArray} {f f' : Bool} (a : AllIs k R L f) (b : AllIs k R L' f') : L = L' ∧ f = f' := by
  rcases a with ⟨a1, a2, a3⟩ | ⟨kn, h, a1, a2, a3, a4, a5, _⟩ <;> rcases b with ⟨b1, b2, b3⟩ | ⟨kn', h', b1, b2, b3, b4, b5, _⟩
  · exact ⟨by rw [a2, b2], by rw [a3, b3]⟩
  · exact absurd b3 a1
  · exact absurd a3 b1
  · obtain rfl : kn = kn' := by omega
    have e := a2.uniq b2
    obtain rfl : h = h' := by omega
    exact ⟨by rw [a4, b4], by rw [a5, b5]⟩
/-- what AllReduced hands back -/
def RetAF (k : Int) (R : List RulD) (w : World) (e : Ending) (w' : World) : Prop :=
  ∃ (L : List ByteArray) (f : Bool) (a : Option Addr) (cap : Nat), AllIs k R L f ∧ e = .returned (.tuple #[.slice a L.length cap, .bool f]) ∧ w'.ownsRow w.heap.size 9 1 (.slice a L.length cap) L.length (strVals L) ∧ Below w.heap.size w w'
theorem RetAll.fn {k : Int} {R : List RulD} {w : World} {e : Ending} {w' : World} (h : RetAll k R w e w') : RetAF k R w e w' := by
  rcases h with ⟨h1, rfl, hb⟩ | ⟨kn, h, h1, hG, h2, h3, h4, a, cap, rfl, ho, hb⟩
  · exact ⟨[], false, none, 0, .inl ⟨h1, rfl, rfl⟩, rfl, World.ownsRow_nil _ _ _ _, hb⟩
  · exact ⟨_, true, a, cap, .inr ⟨kn, h, h1, h2, h4, rfl, rfl, by rw [outTo_len hG.ne]; exact h3⟩, rfl, ho, hb⟩
end Go.Proofs.YtoddpmdjjgnpgaaGreatDoor
namespace Go.Proofs.YtoddpmdjjgnpgaaGreatDoor
open Go.RowKit
set_option linter.unusedVariables false
theorem letB_lt97 {k x : Nat} (hx : x < k) (hk : k ≤ 4) : letB (k : Int) (lt97 x) = true := by
  have h : (lt97 x).toNat = 97 + x := by unfold lt97; simp; omega
  unfold letB inB
  rw [h]
  simp
  omega
theorem wordsF_ok {R : List RulD} {k : Nat} (hk : k ≤ 4) : ∀ (m : Nat) (w : ByteArray), okLt (k : Int) w.data.toList → ∀ u ∈ wordsF R k m w, okLt (k : Int) u.data.toList
  | 0, w, hw, u, hu => by rw [List.mem_singleton.1 hu]; exact hw
  | m + 1, w, hw, u, hu => by
    obtain ⟨x, hx, h2⟩ := List.mem_flatMap.1 hu
    split at h2
    · refine wordsF_ok hk m _ ?_ u h2
      intro y hy
      rw [app_lt] at hy
      rcases List.mem_append.1 hy with hy | hy
      · exact hw y hy
      · rw [List.mem_singleton.1 hy]
        exact letB_lt97 (List.mem_range.1 hx) hk
    · cases h2
theorem mem_outTo {R : List RulD} {k i : Nat} {u : ByteArray} (h : u ∈ outTo R k i) : ∃ m, m < i ∧ u ∈ wordsF R k m ⟨#[]⟩ := by
  unfold outTo at h
  obtain ⟨m, hm, h2⟩ := List.mem_flatMap.1 h
  exact ⟨m, List.mem_range.1 hm, h2⟩
/-- the words and the table are made -/
def GoM (k : Int) (R : List RulD) : Prop := ComplP k R ∧ (∃ c, CntIs k R c ∧ 1 ≤ c ∧ c ≤ 40) ∧ ∃ h, LngIs k R h ∧ h ≤ 8
theorem CntIs.one {k : Int} {R : List RulD} {c : Int} (h : CntIs k R c) (h0 : 0 ≤ c) : 1 ≤ c := by
  obtain ⟨l, _, h2⟩ := h
  rcases h2 with ⟨_, rfl⟩ | ⟨h1, rfl⟩
  · omega
  · have := pSum_at R k.toNat (show 0 < l.toNat + 1 by omega)
    have e : paths R k.toNat 0 ⟨#[]⟩ = 1 := rfl
    omega
/-- what is known of the words -/
structure MonW (k : Int) (L : List ByteArray) : Prop where
  few : L.length ≤ 40
  word : ∀ u ∈ L, wordOkB k u = true ∧ u.size ≤ 8
theorem GoM.words {k : Int} {R : List RulD} (h : GoM k R) {L : List ByteArray} (hL : AllIs k R L true) : MonW k L := by
  obtain ⟨hc, ⟨c, hc1, hc2, hc3⟩, hg, hh1, hh2⟩ := h
  rcases hL with ⟨_, _, h3⟩ | ⟨kn, h, rfl, h2, _, rfl, _, _⟩
  · cases h3
  · have G := sysG_of hc.1
    rcases hh1 with ⟨h1, _⟩ | ⟨_, h4⟩
    · exact absurd hc.1 h1
    · rw [Int.toNat_natCast] at h4
      have e := h4.uniq h2
      have hk := hc.1.1.1.1
      obtain ⟨l, hl1, hl2⟩ := hc1
      rcases hl1 with ⟨h5, _⟩ | ⟨_, h5⟩
      · exact absurd hc.1 h5
      · rw [Int.toNat_natCast] at h5 hl2
        have e2 := h5.uniq h2
        subst e2
        refine ⟨?_, fun u hu => ?_⟩
        · rw [outTo_len G.ne]
          rcases hl2 with ⟨h6, _⟩ | ⟨_, rfl⟩
          · omega
          · rw [Int.toNat_natCast] at hc3
            omega
        · obtain ⟨m, hm, hu2⟩ := mem_outTo hu
          have hz := wordsF_size R kn m _ u hu2
          have e0 : (⟨#[]⟩ : ByteArray).size = 0 := rfl
          refine ⟨wordOk_iff.2 ⟨hk, by omega, wordsF_ok (by omega) m _ (fun y hy => by cases hy) u hu2⟩, by omega⟩
theorem word_app {k : Int} {u v : ByteArray} (hu : wordOkB k u = true) (hv : wordOkB k v = true) (h : u.size + v.size ≤ 16) : wordOkB k (u ++ v) = true := by
  obtain ⟨a1, a2, a3⟩ := wordOk_iff.1 hu
  obtain ⟨_, _, b3⟩ := wordOk_iff.1 hv
  refine wordOk_iff.2 ⟨a1, by rw [ByteArray.size_append]; exact h, fun y hy => ?_⟩
  rw [ByteArray.data_append, Array.toList_append] at hy
  rcases List.mem_append.1 hy with hy | hy
  · exact a3 y hy
  · exact b3 y hy
theorem MonW.pair {k : Int} {L : List ByteArray} (h : MonW k L) {i j : Nat} (hi : i < L.length) (hj : j < L.length) : wordOkB k (nthS L i ++ nthS L j) = true ∧ (nthS L i).size + (nthS L j).size ≤ 16 := by
  have h1 := h.word (nthS L i) (by rw [nthS_lt hi]; exact List.getElem_mem hi)
  have h2 := h.word (nthS L j) (by rw [nthS_lt hj]; exact List.getElem_mem hj)
  exact ⟨word_app h1.1 h2.1 (by omega), by omega⟩
/-- what MonoidOf is: words, table, whether it is made -/
def MonIs (k : Int) (R : List RulD) (L : List ByteArray) (P : List Int) (f : Bool) : Prop := (¬ GoM k R ∧ L = [] ∧ P = [] ∧ f = false) ∨ (GoM k R ∧ AllIs k R L true ∧ P = prodF R L ∧ f = true)
theorem MonIs.uniq {k : Int} {R : List RulD} {L L' : List ByteArray} {P P' : List Int} {f f' : Bool} (a : MonIs k R L P f) (b : MonIs k R L' P' f') : L = L' ∧ P = P' ∧ f = f' := by
  rcases a with ⟨a1, rfl, rfl, rfl⟩ | ⟨a1, a2, rfl, rfl⟩ <;> rcases b with ⟨b1, rfl, rfl, rfl⟩ | ⟨b1, b2, rfl, rfl⟩
  · exact ⟨rfl, rfl, rfl⟩
  · exact absurd b1 a1
  · exact absurd a1 b1
  · obtain ⟨rfl, _⟩ := a2.uniq b2
    exact ⟨rfl, rfl, rfl⟩
theorem MonIs.few {k : Int} {R : List RulD} {L : List ByteArray} {P : List Int} {f : Bool} (h : MonIs k R L P f) : L.length ≤ 40 ∧ P.length ≤ 1640 := by
  rcases h with ⟨_, rfl, rfl, _⟩ | ⟨h1, h2, rfl, _⟩
  · exact ⟨by simp, by simp⟩
  · have h3 := (h1.words h2).few
    refine ⟨h3, ?_⟩
    rw [← prodTo_done]
    exact prodTo_few h3 (Nat.le_refl _) (Nat.zero_le _)
/-- what MonoidOf hands back -/
def RetMon (k : Int) (R : List RulD) (w : World) (e : Ending) (w' : World) : Prop :=
  ∃ (L : List ByteArray) (P : List Int) (f : Bool) (aP aL : Option Addr) (cP cL : Nat), MonIs k R L P f ∧ e = .returned (.tuple #[.agg #[.int .i64 (L.length : Nat), .slice aP P.length cP], .slice aL L.length cL, .bool f]) ∧
    w'.ownsRow w.heap.size 3 1 (.slice aP P.length cP) P.length (intVals P) ∧ w'.ownsRow w.heap.size 9 1 (.slice aL L.length cL) L.length (strVals L) ∧ Below w.heap.size w w'
end Go.Proofs.YtoddpmdjjgnpgaaGreatDoor
namespace Go.Proofs.YtoddpmdjjgnpgaaGreatDoor
open Go.RowKit
set_option linter.unusedVariables false
set_option maxHeartbeats 400000 in
theorem l08Find_any (v : ByteArray) (l : List ByteArray) (a : Option Addr) (cap : Nat) (w : World) (hl : StrsIn w a l) (hlen : l.length ≤ 2 ^ 47) :
    Calls Tryz.prog 144 #[.slice a l.length cap, .string v] w fun e w' => e = .returned (.int .i64 (idxB l v)) ∧ Below w.heap.size w w' := by
  have HL := Lib.hid hl
  clear hl
  go_enter Tryz.func144, Tryz.ntmps144
  go_wp2_with fail
  go_loopw [9] (fun i wr => ∃ j : Nat, j ≤ l.length ∧ i = .int .i64 j ∧ Hid (idxTo l v j = none) ∧ wr = w) (fun i _ => l.length - (intOf i).toNat)
  case atStart => exact ⟨0, Nat.zero_le _, rfl, Lib.hid (idxTo_zero _ _), rfl⟩
  case round =>
    obtain ⟨j, hj, rfl, H, rfl⟩ := hrel
    by_cases hlt : j < l.length
    · obtain ⟨b, off, rfl, hb, hc⟩ := HL.out.cell hlt
      have h1 : wr.cell? ⟨b, off + j, none⟩ = some (.string (nthS l j)) := hc j hlt
      have HS1 : Hid (((nthS l j).toList == v.toList) = false → idxTo l v (j + 1) = none) := Lib.hid (fun hp => idxTo_succ H.out hp)
      have HS2 : Hid (((nthS l j).toList == v.toList) = true → idxB l v = (j : Int)) := Lib.hid (fun hp => idxB_at H.out hlt hp)
      clear hc
      generalize nthS l j = u at *
      cases hp : (u.toList == v.toList)
      · have F := Lib.hid (HS1.out hp)
        go_wp2_with fail
        go_roundw
        case rel => exact ⟨j + 1, by omega, by go_num, F, trivial⟩
        case measure => simp [intOf]; omega
      · have F := Lib.hid (HS2.out hp)
        go_wp2_with fail
        go_ret
        exact ⟨ret_int F.out.symm, Below.refl _ _⟩
    · have F := Lib.hid (idxB_none H.out hlt hj)
      go_wp2_with fail
      go_ret
      exact ⟨ret_int F.out.symm, Below.refl _ _⟩
theorem RetMon.no {k : Int} {R : List RulD} {w w' : World} (h : ¬ GoM k R) (hb : Below w.heap.size w w') : RetMon k R w (.returned (.tuple #[.agg #[.int .i64 0, .slice none 0 0], .slice none 0 0, .bool false])) w' :=
  ⟨[], [], false, none, none, 0, 0, .inl ⟨h, rfl, rfl, rfl⟩, rfl, World.ownsRow_nil _ _ _ _, World.ownsRow_nil _ _ _ _, hb⟩
end Go.Proofs.YtoddpmdjjgnpgaaGreatDoor
namespace Go.Proofs.YtoddpmdjjgnpgaaGreatDoor
open Go.RowKit
set_option linter.unusedVariables false
theorem irr_iff {R : List RulD} {v : List UInt8} : Irr (SR R) v ↔ ∀ p ∈ R, ∀ x y, v ≠ x ++ (p.1.data.toList ++ y) := by
  constructor
  · intro h p hp x y e
    exact h _ ⟨x, _, _, y, ⟨p, hp, rfl, rfl⟩, e, rfl⟩
  · rintro h u ⟨x, _, _, y, ⟨p, hp, rfl, rfl⟩, e, rfl⟩
    exact h p hp x y e
theorem irr_pre {R : List RulD} {u t : List UInt8} (h : Irr (SR R) (u ++ t)) : Irr (SR R) u := by
  rw [irr_iff] at *
  intro p hp x y e
  exact h p hp x (y ++ t) (by rw [e]; simp [List.append_assoc])
theorem okX_irr {R : List RulD} {w : ByteArray} {x : Nat} (h : Irr (SR R) (w ++ letterN x).data.toList) : okX R w x = true := by
  unfold okX
  rw [Bool.not_eq_true', Bool.eq_false_iff]
  intro he
  obtain ⟨r, hr, hs⟩ := endsR_iff.1 he
  unfold sufBB at hs
  obtain ⟨t, ht⟩ := List.isSuffixOf_iff_suffix.1 hs
  rw [irr_iff] at h
  exact h r hr t [] (by rw [List.append_nil]; exact ht.symm)
theorem irr_snoc {R : List RulD} (hne : ∀ r ∈ R, r.1.size ≠ 0) {w : ByteArray} {x : Nat} (h : Irr (SR R) w.data.toList) (hx : okX R w x = true) : Irr (SR R) (w ++ letterN x).data.toList := by
  rw [irr_iff] at *
  intro p hp a b e
  rw [app_lt] at e
  rcases List.eq_nil_or_concat b with rfl | ⟨b', y, rfl⟩
  · unfold okX at hx
    rw [Bool.not_eq_true', Bool.eq_false_iff] at hx
    refine hx (endsR_iff.2 ⟨p, hp, ?_⟩)
    unfold sufBB
    rw [List.isSuffixOf_iff_suffix, app_lt]
    exact ⟨a, by rw [e]; simp⟩
  · rw [List.concat_eq_append] at e
    have e2 : w.data.toList ++ [lt97 x] = (a ++ (p.1.data.toList ++ b')) ++ [y] := by rw [e]; simp [List.append_assoc]
    obtain ⟨h1, _⟩ := List.append_inj' e2 rfl
    exact h p hp a b' h1
theorem nodup_nth {L : List ByteArray} (h : L.Nodup) {p q : Nat} (hp : p < L.length) (hq : q < L.length) (e : nthS L p = nthS L q) : p = q := by
  rw [nthS_lt hp, nthS_lt hq] at e
  have h1 := List.pairwise_iff_getElem.1 h
  rcases Nat.lt_trichotomy p q with h2 | h2 | h2
  · exact absurd e (h1 p q hp hq h2)
  · exact h2
  · exact absurd e.symm (h1 q p hq hp h2)
theorem idxB_mem {L : List ByteArray} {v : ByteArray} (h : v ∈ L) : ∃ p, p < L.length ∧ idxB L v = (p : Int) ∧ nthS L p = v := by
  have hf : ∃ p, idxTo L v L.length = some p := by
    obtain ⟨q, hq, e⟩ := List.getElem_of_mem h
    cases hc : idxTo L v L.length with
    | some p => exact ⟨p, rfl⟩
    | none =>
      unfold idxTo at hc
      rw [List.find?_eq_none] at hc
      have := hc q (List.mem_range.2 hq)
      rw [nthS_lt hq, e] at this
      simp at this
  obtain ⟨p, hp⟩ := hf
  have h1 := hp
  unfold idxTo at h1
  have h2 := List.find?_some h1
  have h3 := List.mem_range.1 (List.mem_of_find?_eq_some h1)
  refine ⟨p, h3, ?_, ?_⟩
  · unfold idxB; rw [hp]
  · exact bytes_eq.1 h2
/-- what is known of the words of a complete system and of their table -/
structure MonG (k : Int) (R : List RulD) (L : List ByteArray) (ln : List Nat) : Prop where
  few : L.length ≤ 40
  pos : 0 < L.length
  nd : L.Nodup
  head : nthS L 0 = ⟨#[]⟩
  word : ∀ u ∈ L, wordOkB k u = true ∧ u.size ≤ 8
  mem : ∀ u : ByteArray, u ∈ L ↔ okLt k u.data.toList ∧ Irr (SR R) u.data.toList
  len : ln.length = L.length * L.length
  prod : ∀ i j, i < L.length → j < L.length → tm L.length ln i j < L.length ∧ NormIs R (nthS L i ++ nthS L j) (nthS L (tm L.length ln i j))
theorem nth_mem {L : List ByteArray} {i : Nat} (h : i < L.length) : nthS L i ∈ L := by rw [nthS_lt h]; exact List.getElem_mem h
theorem MonG.tab {k : Int} {R : List RulD} {L : List ByteArray} {ln : List Nat} (h : MonG k R L ln) (hc : ComplP k R) : TabOk L.length ln := by
  have hne := sys_ne hc.1.1
  have hd := sys_dwn hc.1
  have hcr := comp_crit hc
  have hnf : ∀ {u x : ByteArray}, NormIs R u x → Nf (SR R) u.data.toList x.data.toList := fun hx => norm_nf hne hx
  have hirr : ∀ i, i < L.length → Irr (SR R) (nthS L i).data.toList := fun i hi => ((h.mem _).1 (nth_mem hi)).2
  have eq_of : ∀ {p q : Nat} {u : List UInt8}, p < L.length → q < L.length → Nf (SR R) u (nthS L p).data.toList → Nf (SR R) u (nthS L q).data.toList → p = q := fun {p q u} hp hq a b =>
    nodup_nth h.nd hp hq (ba_lists (Nf.uniq hd hcr _ u (Nat.lt_succ_self _) _ _ a b))
  refine ⟨⟨h.pos, h.few, h.len, ?_⟩, ?_, ?_, ?_⟩
  · intro x hx
    obtain ⟨i, hi, rfl⟩ := List.getElem_of_mem hx
    rw [h.len] at hi
    have hm := h.pos
    have h1 : i / L.length < L.length := Nat.div_lt_of_lt_mul hi
    have h2 : i % L.length < L.length := Nat.mod_lt _ hm
    have h3 := (h.prod _ _ h1 h2).1
    have e : i / L.length * L.length + i % L.length = i := by rw [Nat.mul_comm]; exact Nat.div_add_mod i L.length
    unfold tm at h3
    rw [e, List.getD_eq_getElem?_getD, List.getElem?_eq_getElem (by rw [h.len]; exact hi)] at h3
    exact h3
  · intro i hi
    obtain ⟨h1, h2⟩ := h.prod 0 i h.pos hi
    have h3 := hnf h2
    rw [h.head, ByteArray.data_append, Array.toList_append] at h3
    refine eq_of h1 hi h3 ?_
    have e : (⟨#[]⟩ : ByteArray).data.toList ++ (nthS L i).data.toList = (nthS L i).data.toList := rfl
    rw [e]
    exact ⟨.refl _, hirr i hi⟩
  · intro i hi
    obtain ⟨h1, h2⟩ := h.prod i 0 hi h.pos
    have h3 := hnf h2
    rw [h.head, ByteArray.data_append, Array.toList_append] at h3
    refine eq_of h1 hi h3 ?_
    have e : (nthS L i).data.toList ++ (⟨#[]⟩ : ByteArray).data.toList = (nthS L i).data.toList := List.append_nil _
    rw [e]
    exact ⟨.refl _, hirr i hi⟩
  · intro i j l hi hj hl
    obtain ⟨a1, a2⟩ := h.prod i j hi hj
    obtain ⟨b1, b2⟩ := h.prod j l hj hl
    obtain ⟨c1, c2⟩ := h.prod _ l a1 hl
    obtain ⟨d1, d2⟩ := h.prod i _ hi b1
    have A := hnf a2
    have B := hnf b2
    have C := hnf c2
    have D := hnf d2
    rw [ByteArray.data_append, Array.toList_append] at A B C D
    refine eq_of (u := (nthS L i).data.toList ++ ((nthS L j).data.toList ++ (nthS L l).data.toList)) c1 d1 ⟨?_, C.2⟩ ⟨?_, D.2⟩
    · have h1 := A.1.ctx [] (nthS L l).data.toList
      simp only [List.nil_append] at h1
      rw [← List.append_assoc]
      exact h1.trans C.1
    · have h1 := B.1.ctx (nthS L i).data.toList []
      simp only [List.append_nil] at h1
      exact h1.trans D.1
/-- a valid table -/
def TabG (m : Nat) (l : List Int) : Prop := ∃ ln : List Nat, l = ln.map Int.ofNat ∧ TabOk m ln
theorem TabOk.rows {m : Nat} {ln : List Nat} (h : TabOk m ln) : rowsOk m ln = true := by
  refine all_range.2 fun i hi => ?_
  unfold rowOk idn
  rw [Bool.and_eq_true, Bool.and_eq_true, decide_eq_true_eq, decide_eq_true_eq]
  refine ⟨⟨h.left i hi, h.right i hi⟩, all_range.2 fun j hj => all_range.2 fun k hk => ?_⟩
  unfold asc
  rw [decide_eq_true_eq]
  exact h.assoc i j k hi hj hk
theorem TabG.tab {m : Nat} {l : List Int} (h : TabG m l) : tabB (m : Nat) l = true := by
  obtain ⟨ln, rfl, h⟩ := h
  exact tabB_rows h.toTb h.rows
end Go.Proofs.YtoddpmdjjgnpgaaGreatDoor
