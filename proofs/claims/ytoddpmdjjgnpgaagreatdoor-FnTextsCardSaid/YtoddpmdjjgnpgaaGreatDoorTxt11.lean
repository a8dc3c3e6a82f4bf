/-
  A range over strings.SplitSeq at one byte: the statement's law, over the iterator of XSeqI.
-/
import Derived.Test.YtoddpmdjjgnpgaaGreatDoorTxt05
import Derived.Lib.Atoi
import Derived.Lib.AtoiAll
import Derived.Test.YtoddpmdjjgnpgaaGreatDoorTxt10
import Derived.Lib.IndexLaws
import Derived.Test.YtoddpmdjjgnpgaaGreatDoorTxt02
import Derived.Deep.QuietTactic
import Derived.BigQuiet
import Derived.RangeFuncNested
import Derived.RangeFuncBound
import Derived.RangeFuncCalls
import Derived.RangeFuncLeaves
import Derived.Shelf.Abstract
import Derived.Shelf.RegionOpen
import Derived.WalkKit
import Derived.OwnWalkIn
import Derived.TacticsInMore
import Derived.LoopNIn
import Derived.LoopIn
namespace Go.Proofs.YtoddpmdjjgnpgaaGreatDoor
open Go.RowKit
set_option linter.unusedVariables false
theorem dig_val {d : Nat} (h : d < 10) : Lib.digitVal (UInt8.ofNat (48 + d)) = some d := by
  have e : (UInt8.ofNat (48 + d)).toNat = 48 + d := by simp; omega
  unfold Lib.digitVal
  rw [e, if_pos (by omega)]
  congr 1; omega
theorem dig_of {b : UInt8} {d : Nat} (h : Lib.digitVal b = some d) : b.toNat = 48 + d ∧ d ≤ 9 := by
  unfold Lib.digitVal at h
  split at h
  · simp only [Option.some.injEq] at h; omega
  · cases h
theorem decFrom_app : ∀ (l : List UInt8) (acc n d : Nat) (b : UInt8), Lib.decFrom acc l = some n → Lib.digitVal b = some d → Lib.decFrom acc (l ++ [b]) = some (n * 10 + d)
  | [], acc, n, d, b, h, hb => by
    simp only [Lib.decFrom, Option.some.injEq] at h
    subst h
    simp [Lib.decFrom, hb]
  | a :: t, acc, n, d, b, h, hb => by
    simp only [List.cons_append, Lib.decFrom] at h ⊢
    cases e : Lib.digitVal a with
    | none => rw [e] at h; cases h
    | some x => rw [e] at h; exact decFrom_app t _ n d b h hb
theorem decFrom_digits (u : Nat) : Lib.decFrom 0 (Lib.decDigits u) = some u := by
  induction u using Nat.strongRecOn with
  | _ u ih =>
    by_cases h : u < 10
    · rw [decDigits_small h]; simp only [Lib.decFrom, dig_val h, Nat.zero_mul, Nat.zero_add]
    · rw [decDigits_big (by omega), decFrom_app _ _ _ _ _ (ih (u / 10) (by omega)) (dig_val (Nat.mod_lt _ (by omega)))]
      congr 1; omega
theorem decFrom_ge : ∀ (l : List UInt8) (acc n : Nat), Lib.decFrom acc l = some n → acc ≤ n
  | [], acc, n, h => by simp only [Lib.decFrom, Option.some.injEq] at h; omega
  | a :: t, acc, n, h => by
    simp only [Lib.decFrom] at h
    cases e : Lib.digitVal a with
    | none => rw [e] at h; cases h
    | some x => rw [e] at h; have := decFrom_ge t _ n h; omega
theorem decFrom_pre : ∀ (l : List UInt8) (acc n j : Nat), Lib.decFrom acc l = some n → ∃ v, Lib.decFrom acc (l.take j) = some v ∧ v ≤ n
  | l, acc, n, 0, h => ⟨acc, by simp [Lib.decFrom], decFrom_ge l acc n h⟩
  | [], acc, n, j + 1, h => by
    simp only [Lib.decFrom, Option.some.injEq] at h
    exact ⟨acc, by simp [Lib.decFrom], by omega⟩
  | a :: t, acc, n, j + 1, h => by
    simp only [List.take_succ_cons, Lib.decFrom] at h ⊢
    cases e : Lib.digitVal a with
    | none => rw [e] at h; cases h
    | some x => rw [e] at h; exact decFrom_pre t _ n j h
theorem dec_step {l : List UInt8} {u j v : Nat} (h : Lib.decFrom 0 l = some u) (hj : j < l.length) (hv : Lib.decFrom 0 (l.take j) = some v) : ∃ d, (l[j]).toNat = 48 + d ∧ d ≤ 9 ∧ Lib.decFrom 0 (l.take (j + 1)) = some (v * 10 + d) ∧ v * 10 + d ≤ u := by
  obtain ⟨d, hd⟩ := Lib.digit_of_decFrom l 0 u h j l[j] (List.getElem?_eq_getElem hj)
  have h1 := Lib.decFrom_take l j 0 v l[j] d hv (List.getElem?_eq_getElem hj) hd
  obtain ⟨x, hx, hxu⟩ := decFrom_pre l 0 u (j + 1) h
  rw [h1] at hx
  simp only [Option.some.injEq] at hx
  exact ⟨d, (dig_of hd).1, (dig_of hd).2, h1, by omega⟩
theorem pu_of : ∀ (l : List UInt8) (acc n : Nat), Lib.decFrom acc l = some n → n < 18446744073709551616 → Lib.parseUint10 acc l = .ok n
  | [], acc, n, h, _ => by
    simp only [Lib.decFrom, Option.some.injEq] at h
    simp [Lib.parseUint10, h]
  | a :: t, acc, n, h, hn => by
    simp only [Lib.decFrom] at h
    cases e : Lib.digitVal a with
    | none => rw [e] at h; cases h
    | some x =>
      rw [e] at h
      have h' : Lib.decFrom (acc * 10 + x) t = some n := h
      have hg := decFrom_ge t _ n h'
      obtain ⟨h1, h2⟩ := dig_of e
      have ex : a.toNat - 48 = x := by omega
      rw [Lib.parseUint10, if_pos ⟨by omega, by omega⟩, ex, if_neg (by omega), if_neg (by omega)]
      exact pu_of t _ n h' hn
theorem decDigits_ne (u : Nat) : Lib.decDigits u ≠ [] := fun e => by
  have h := congrArg List.length e
  rw [Lib.decDigits_length] at h
  have := Lib.nDigits_pos u
  simp at h; omega
theorem mag_of {u : Nat} (h : u < 18446744073709551616) : Lib.parseMag (Lib.decDigits u) = .ok u := by
  unfold Lib.parseMag
  rw [if_neg (decDigits_ne u)]
  exact pu_of _ _ _ (decFrom_digits u) h
theorem decDigits_dig (u : Nat) : ∀ b ∈ Lib.decDigits u, 48 ≤ b.toNat ∧ b.toNat ≤ 57 := fun b hb => by
  obtain ⟨j, hj, rfl⟩ := List.getElem_of_mem hb
  obtain ⟨v, hv, _⟩ := decFrom_pre (Lib.decDigits u) 0 u j (decFrom_digits u)
  obtain ⟨d, h1, h2, _⟩ := dec_step (decFrom_digits u) hj hv
  omega
theorem atoi_itoa {n : Int} (h0 : -9223372036854775808 ≤ n) (h1 : n ≤ 9223372036854775807) : Lib.atoiAll (Lib.itoa n) = .ok n := by
  by_cases hn : n < 0
  · have e : Lib.itoa n = 45 :: Lib.decDigits n.natAbs := by unfold Lib.itoa; rw [if_pos hn]
    have e45 : (45 : UInt8).toNat = 45 := rfl
    rw [e]
    unfold Lib.atoiAll
    simp only [e45]
    rw [if_pos (Or.inr trivial), mag_of (by omega)]
    simp only [not_true_eq_false, false_and, if_false, true_and]
    rw [if_neg (by omega)]
    simp only [if_true]
    congr 1; omega
  · have e : Lib.itoa n = Lib.decDigits n.toNat := by unfold Lib.itoa; rw [if_neg hn]
    rw [e]
    have hm := mag_of (u := n.toNat) (by omega)
    have hd := decDigits_dig n.toNat
    cases hl : Lib.decDigits n.toNat with
    | nil => exact absurd hl (decDigits_ne _)
    | cons c r =>
      rw [hl] at hm hd
      have hc := hd c (by simp)
      unfold Lib.atoiAll
      simp only []
      rw [if_neg (by omega), hm]
      simp only []
      rw [if_neg (by omega), if_neg (by omega), if_neg (by omega)]
      congr 1; omega
/-- the text s is the numeral of n -/
def IsNum (s : ByteArray) (n : Int) : Prop := (-9223372036854775808 ≤ n ∧ n ≤ 9223372036854775807) ∧ s = numB n
theorem IsNum.ok {s : ByteArray} {n : Int} (h : IsNum s n) : Lib.atoiAll s.data.toList = .ok n := by
  obtain ⟨⟨h0, h1⟩, rfl⟩ := h
  exact atoi_itoa h0 h1
theorem IsNum.uniq {s : ByteArray} {n m : Int} (h : IsNum s n) (h' : IsNum s m) : n = m := by
  have := h.ok.symm.trans h'.ok
  injection this
/-- what ParseInt hands back -/
def RetPI (s : ByteArray) (w : World) (e : Ending) (w' : World) : Prop := ∃ (n : Int) (b : Bool), e = .returned (.tuple #[.int .i64 n, .bool b]) ∧ ((b = true ∧ IsNum s n) ∨ (b = false ∧ n = 0 ∧ ∀ m, ¬ IsNum s m)) ∧ Below w.heap.size w w'
theorem RetPI.yes {s : ByteArray} {n : Int} {w w' : World} (h : IsNum s n) (hb : Below w.heap.size w w') : RetPI s w (.returned (.tuple #[.int .i64 n, .bool true])) w' := ⟨n, true, rfl, .inl ⟨rfl, h⟩, hb⟩
theorem RetPI.no {s : ByteArray} {w w' : World} (h : ∀ m, ¬ IsNum s m) (hb : Below w.heap.size w w') : RetPI s w (.returned (.tuple #[.int .i64 0, .bool false])) w' := ⟨0, false, rfl, .inr ⟨rfl, rfl, h⟩, hb⟩
end Go.Proofs.YtoddpmdjjgnpgaaGreatDoor
namespace Go.Proofs.YtoddpmdjjgnpgaaGreatDoor
open Go.RowKit
set_option linter.unusedVariables false
/-- the parts of a row of bytes between the bytes c -/
def parL (c : UInt8) : List UInt8 → List (List UInt8)
  | [] => [[]]
  | x :: t => if x = c then [] :: parL c t else match parL c t with
    | [] => [[x]]
    | p :: q => (x :: p) :: q
theorem parL_ne (c : UInt8) : ∀ l, parL c l ≠ []
  | [] => by simp [parL]
  | x :: t => by
    unfold parL
    split
    · simp
    · split <;> simp
theorem parL_app (c : UInt8) (b : List UInt8) : ∀ a, parL c (a ++ c :: b) = parL c a ++ parL c b
  | [] => by simp [parL]
  | x :: t => by
    have ih := parL_app c b t
    rw [List.cons_append, parL, parL]
    by_cases h : x = c
    · rw [if_pos h, if_pos h, ih]; rfl
    · rw [if_neg h, if_neg h, ih]
      cases e : parL c t with
      | nil => exact absurd e (parL_ne c t)
      | cons p q => rfl
theorem parL_no {c : UInt8} : ∀ {l : List UInt8}, c ∉ l → parL c l = [l]
  | [], _ => rfl
  | x :: t, h => by
    have hx : ¬ x = c := fun e => h (by simp [e])
    have ht : c ∉ t := fun e => h (by simp [e])
    rw [parL, if_neg hx, parL_no ht]
theorem parL_snoc {c x : UInt8} (hx : ¬ x = c) : ∀ {a : List UInt8} {q : List (List UInt8)} {p : List UInt8}, parL c a = q ++ [p] → parL c (a ++ [x]) = q ++ [p ++ [x]]
  | [], q, p, h => by
    cases q with
    | nil =>
      simp [parL] at h
      subst h
      simp [parL, hx]
    | cons y q => simp [parL] at h
  | y :: t, q, p, h => by
    rw [parL] at h
    rw [List.cons_append, parL]
    by_cases hy : y = c
    · rw [if_pos hy] at h ⊢
      cases q with
      | nil =>
        simp only [List.nil_append, List.cons.injEq] at h
        exact absurd h.2 (parL_ne c t)
      | cons z q =>
        simp only [List.cons_append, List.cons.injEq] at h
        rw [parL_snoc hx h.2, ← h.1]; rfl
    · rw [if_neg hy] at h ⊢
      cases e : parL c t with
      | nil => exact absurd e (parL_ne c t)
      | cons p' q' =>
        rw [e] at h
        simp only [] at h
        cases q with
        | nil =>
          simp only [List.nil_append, List.cons.injEq] at h
          obtain ⟨h1, h2⟩ := h
          subst h2
          have e' : parL c t = [] ++ [p'] := e
          rw [parL_snoc hx e', ← h1]; rfl
        | cons z q =>
          simp only [List.cons_append, List.cons.injEq] at h
          obtain ⟨h1, h2⟩ := h
          have e' : parL c t = (p' :: q) ++ [p] := by rw [e, h2]; rfl
          rw [parL_snoc hx e', ← h1]; rfl
theorem ext_list (s : ByteArray) (a b : Nat) : (s.extract a b).data.toList = (s.data.toList.take b).drop a := by
  rw [ByteArray.data_extract, Array.toList_extract, List.extract_eq_take_drop, List.drop_take]
def mkB (l : List UInt8) : ByteArray := ⟨l.toArray⟩
theorem mkB_data (s : ByteArray) : mkB s.data.toList = s := rfl
theorem data_mkB (l : List UInt8) : (mkB l).data.toList = l := rfl
theorem hitB_at {s : ByteArray} {c : UInt8} {i : Nat} (h : i < s.size) : hitB s c i = (s.data.toList[i]'(by simpa using h) == c) := by
  unfold hitB; rw [dif_pos h]; rfl
theorem spT_par (s : ByteArray) (c : UInt8) : ∀ i, i ≤ s.size → parL c (s.data.toList.take i) = (spT s c i).1.map (fun b => b.data.toList) ++ [(s.extract (spT s c i).2 i).data.toList]
  | 0, _ => by simp [parL, spT]
  | i + 1, hi => by
    have ih := spT_par s c i (by omega)
    have hle := (spT_le s c i).1
    have hlt : i < s.data.toList.length := by have h : s.data.toList.length = s.size := Array.length_toList; omega
    have et : s.data.toList.take (i + 1) = s.data.toList.take i ++ [s.data.toList[i]] := by rw [List.take_succ_eq_append_getElem hlt]
    cases e : spT s c i with
    | mk l fr =>
      rw [e] at ih hle
      simp only [] at ih hle
      cases hb : hitB s c i
      · have hx : ¬ s.data.toList[i] = c := fun e2 => by rw [hitB_at (by omega), e2] at hb; simp at hb
        rw [spT_no e hb, et, parL_snoc hx ih]
        simp only []
        congr 2
        rw [ext_list, ext_list, et, List.drop_append_of_le_length (by rw [List.length_take]; omega)]
      · have hx : s.data.toList[i] = c := by rw [hitB_at (by omega)] at hb; exact eq_of_beq hb
        rw [spT_hit e hb, et, hx, show ([c] : List UInt8) = c :: [] from rfl, parL_app, ih]
        simp only [List.map_append, List.map_cons, List.map_nil]
        congr 1
        rw [ext_list, List.drop_eq_nil_of_le (by rw [List.length_take]; omega)]
        rfl
theorem splitB_par (s : ByteArray) (c : UInt8) : splitB s c = (parL c s.data.toList).map mkB := by
  have h := spT_par s c s.size (Nat.le_refl _)
  rw [List.take_of_length_le (by simp)] at h
  rw [h]
  unfold splitB
  rw [List.map_append, List.map_map, List.map_cons, List.map_nil, mkB_data]
  congr 1
  exact (List.map_id _).symm
theorem index_cases (l : List UInt8) (c : UInt8) : (Lib.indexByte l c = -1 ∧ c ∉ l) ∨ ∃ i : Nat, Lib.indexByte l c = (i : Int) ∧ i < l.length ∧ l = l.take i ++ c :: l.drop (i + 1) ∧ c ∉ l.take i := by
  have h1 := Lib.indexByte_ge l c
  by_cases h : Lib.indexByte l c = -1
  · refine .inl ⟨h, fun hm => ?_⟩
    obtain ⟨k, hk, e⟩ := List.getElem_of_mem hm
    exact Lib.indexByte_none h k (by rw [List.getElem?_eq_getElem hk, e])
  · obtain ⟨i, hi⟩ : ∃ i : Nat, Lib.indexByte l c = (i : Int) := ⟨(Lib.indexByte l c).toNat, by omega⟩
    obtain ⟨ha, hb⟩ := Lib.indexByte_some hi
    have hlt := (List.getElem?_eq_some_iff.1 ha).1
    have he := (List.getElem?_eq_some_iff.1 ha).2
    refine .inr ⟨i, hi, hlt, ?_, fun hm => ?_⟩
    · rw [← he, ← List.drop_eq_getElem_cons hlt, List.take_append_drop]
    · obtain ⟨k, hk, e⟩ := List.getElem_of_mem hm
      rw [List.length_take] at hk
      rw [List.getElem_take] at e
      exact hb k (by omega) (by rw [List.getElem?_eq_getElem (by omega), e])
/-- the next part of the rest r -/
theorem split_next (r : ByteArray) (c : UInt8) : (Lib.indexByte r.data.toList c = -1 ∧ splitB r c = [r]) ∨ ∃ i : Nat, Lib.indexByte r.data.toList c = (i : Int) ∧ i < r.size ∧ splitB r c = r.extract 0 i :: splitB (r.extract (i + 1) r.size) c := by
  rcases index_cases r.data.toList c with ⟨h1, h2⟩ | ⟨i, h1, h2, h3, h4⟩
  · exact .inl ⟨h1, by rw [splitB_par, parL_no h2]; rfl⟩
  · refine .inr ⟨i, h1, by simpa using h2, ?_⟩
    rw [splitB_par, splitB_par, ext_list, List.take_of_length_le (l := r.data.toList) (by simp)]
    conv => lhs; rw [h3]
    rw [parL_app, parL_no h4]
    simp only [List.map_cons, List.singleton_append]
    congr 1
    show mkB _ = mkB (r.extract 0 i).data.toList
    rw [ext_list, List.drop_zero]
/-- strings.Cut at one byte -/
def cutB (s : ByteArray) (c : UInt8) : ByteArray × ByteArray × Bool := if Lib.indexByte s.data.toList c < 0 then (s, ⟨#[]⟩, false) else (s.extract 0 (Lib.indexByte s.data.toList c).toNat, s.extract ((Lib.indexByte s.data.toList c).toNat + 1) s.size, true)
theorem cutB_app {a b : List UInt8} {c : UInt8} (h : c ∉ a) : (cutB (mkB (a ++ c :: b)) c).1 = mkB a ∧ (cutB (mkB (a ++ c :: b)) c).2.1 = mkB b := by
  have e0 : (mkB (a ++ c :: b)).data.toList = a ++ c :: b := rfl
  rcases index_cases (a ++ c :: b) c with ⟨h1, h2⟩ | ⟨i, h1, h2, h3, h4⟩
  · exact absurd (by simp) h2
  · have hi : i = a.length := by
      obtain ⟨ha, hb⟩ := Lib.indexByte_some h1
      rcases Nat.lt_trichotomy i a.length with hl | hl | hl
      · rw [List.getElem?_append_left hl] at ha
        exact absurd (List.mem_of_getElem? ha) h
      · exact hl
      · exact absurd (by rw [List.getElem?_append_right (Nat.le_refl _), Nat.sub_self]; rfl) (hb a.length hl)
    subst hi
    unfold cutB
    rw [e0, h1, if_neg (by omega)]
    simp only [Int.toNat_natCast]
    constructor
    · rw [← mkB_data (ByteArray.extract _ _ _), ext_list, e0, List.drop_zero, List.take_left']
      rfl
    · rw [← mkB_data (ByteArray.extract _ _ _), ext_list, e0, List.take_of_length_le (by show _ ≤ (mkB _).data.size; rw [← Array.length_toList]; exact Nat.le_refl _)]
      rw [show a.length + 1 = (a ++ [c]).length by simp, show a ++ c :: b = (a ++ [c]) ++ b by simp, List.drop_left']
      rfl
/-! ### a link -/
abbrev LkZ := Int × Int × Bool
theorem itoa_free {n : Int} {c : UInt8} (h : c.toNat < 45 ∨ 57 < c.toNat) : c ∉ Lib.itoa n := fun hm => by
  unfold Lib.itoa at hm
  split at hm
  · rcases List.mem_cons.1 hm with e | hm
    · have : c.toNat = 45 := by rw [e]; rfl
      omega
    · have := decDigits_dig _ c hm; omega
  · have := decDigits_dig _ c hm; omega
def signL (b : Bool) : UInt8 := if b = true then 45 else 43
theorem linkB_list (x : LkZ) : (linkB x).data.toList = signL x.2.2 :: (Lib.itoa x.1 ++ 64 :: Lib.itoa x.2.1) := by
  obtain ⟨r, p, b⟩ := x
  unfold linkB signB signL numB
  cases b <;> simp [ByteArray.data_append]
theorem linkB_free (x : LkZ) : (32 : UInt8) ∉ (linkB x).data.toList := fun hm => by
  rw [linkB_list] at hm
  rcases List.mem_cons.1 hm with e | hm
  · unfold signL at e; split at e <;> simp at e
  · rcases List.mem_append.1 hm with hm | hm
    · exact itoa_free (by simp) hm
    · rcases List.mem_cons.1 hm with e | hm
      · simp at e
      · exact itoa_free (by simp) hm
theorem linkB_pos (x : LkZ) : 0 < (linkB x).size := by
  have e : (linkB x).size = (linkB x).data.toList.length := Array.length_toList.symm
  rw [e, linkB_list]; simp
theorem linkB_tail (x : LkZ) : (linkB x).extract 1 (linkB x).size = mkB (Lib.itoa x.1 ++ 64 :: Lib.itoa x.2.1) := by
  have e : (linkB x).data.toList.length = (linkB x).size := Array.length_toList
  rw [← mkB_data (ByteArray.extract _ _ _), ext_list, List.take_of_length_le (Nat.le_of_eq e), linkB_list]; rfl
theorem linkB_split (x : LkZ) : splitB ((linkB x).extract 1 (linkB x).size) 64 = [numB x.1, numB x.2.1] := by
  rw [linkB_tail, splitB_par, data_mkB, parL_app, parL_no (itoa_free (by simp)), parL_no (itoa_free (by simp))]; rfl
theorem linkB_cut (x : LkZ) : (cutB ((linkB x).extract 1 (linkB x).size) 64).1 = numB x.1 ∧ (cutB ((linkB x).extract 1 (linkB x).size) 64).2.1 = numB x.2.1 := by
  rw [linkB_tail]; exact cutB_app (itoa_free (by simp))
theorem linkB_head (x : LkZ) (h : 0 < (linkB x).size) : (((((linkB x)[0]'h).toNat : Nat) : Int) == 45) = x.2.2 := by
  have e : (linkB x).data.toList[0]? = some (signL x.2.2) := by rw [linkB_list]; rfl
  rw [Array.getElem?_toList, Array.getElem?_eq_getElem (by exact h)] at e
  have e2 : (linkB x)[0] = signL x.2.2 := Option.some.inj e
  rw [e2]; unfold signL; cases x.2.2 <;> rfl
/-- the parts of a text of links -/
theorem join_par {l : List ByteArray} {c : UInt8} (hf : ∀ s ∈ l, c ∉ s.data.toList) : ∀ j, j < l.length → parL c (joinTo l ⟨#[c]⟩ (j + 1)).data.toList = (l.take (j + 1)).map (fun s => s.data.toList)
  | 0, hj => by
    rw [joinTo_one, nthS_lt hj, parL_no (hf _ (List.getElem_mem hj)), List.take_succ_eq_append_getElem hj]; simp
  | j + 1, hj => by
    have ih := join_par hf j (by omega)
    rw [joinTo_succ _ _ (by omega), nthS_lt hj, List.take_succ_eq_append_getElem hj, List.map_append, ← ih]
    simp only [ByteArray.data_append, Array.toList_append]
    rw [List.append_assoc]
    show parL c (_ ++ ([c] ++ _)) = _
    rw [List.singleton_append, parL_app, parL_no (hf _ (List.getElem_mem hj))]
    rfl
theorem fmt_split {L : List LkZ} (h : 0 < L.length) : splitB (fmtLinks L) 32 = L.map linkB := by
  have e : linkTo L L.length = L.map linkB := by unfold linkTo; rw [List.take_length]
  rw [fmtLinks_pos h, splitB_par, e]
  have hl : (L.map linkB).length = L.length := List.length_map ..
  have hj := join_par (l := L.map linkB) (c := 32) (fun s hs => by obtain ⟨x, _, rfl⟩ := List.mem_map.1 hs; exact linkB_free x) (L.length - 1) (by rw [hl]; omega)
  rw [show L.length - 1 + 1 = L.length by omega, List.take_of_length_le (by rw [hl]; exact Nat.le_refl _)] at hj
  unfold joinF
  rw [hl, hj, List.map_map]
  exact (List.map_congr_left fun s _ => mkB_data s).trans (List.map_id _)
end Go.Proofs.YtoddpmdjjgnpgaaGreatDoor
namespace Go.Proofs.YtoddpmdjjgnpgaaGreatDoor
open Go.RowKit
set_option linter.unusedVariables false
theorem cutB_no {s : ByteArray} {c : UInt8} (h : Lib.indexByte s.data.toList c = -1) : cutB s c = (s, ⟨#[]⟩, false) := by
  unfold cutB; rw [if_pos (by omega)]
theorem cutB_yes {s : ByteArray} {c : UInt8} {i : Nat} (h : Lib.indexByte s.data.toList c = (i : Int)) : cutB s c = (s.extract 0 i, s.extract (i + 1) s.size, true) := by
  unfold cutB; rw [if_neg (by omega), h, Int.toNat_natCast]
def RetC1 (s : ByteArray) (c : UInt8) (w : World) : Prop := Calls Tryz.prog 125 #[.string s, .string ⟨#[c]⟩] w fun e w' => e = .returned (.tuple #[.string (cutB s c).1, .string (cutB s c).2.1, .bool (cutB s c).2.2]) ∧ Below w.heap.size w w'
theorem RetC1.outer {s : ByteArray} {c : UInt8} {w : World} (h : RetC1 s c w) : Calls Tryz.prog 80 #[.string s, .string ⟨#[c]⟩] w fun e w' => e = .returned (.tuple #[.string (cutB s c).1, .string (cutB s c).2.1, .bool (cutB s c).2.2]) ∧ Below w.heap.size w w' := by
  unfold RetC1 at h
  have H := Lib.hid h
  clear h
  generalize (cutB s c).1 = x at *
  generalize (cutB s c).2.1 = y at *
  generalize (cutB s c).2.2 = z at *
  go_enter Tryz.func80, Tryz.ntmps80
  go_wp2_with fail
  refine H.out.mono ?_
  rintro e w2 ⟨rfl, hb⟩
  have HB := Lib.hid hb
  clear hb
  go_wp2_with fail
  refine bodyPost_ret (v := .tuple #[.string x, .string y, .bool z]) ?_ rfl ⟨rfl, HB.out⟩
  simp [results, Tryz.results80, go_sem]
set_option maxRecDepth 20000 in
set_option maxHeartbeats 2000000 in
theorem cutI_any (s : ByteArray) (c : UInt8) (w : World) (hs : s.size ≤ maxLen) :
    Calls Tryz.prog 80 #[.string s, .string ⟨#[c]⟩] w fun e w' => e = .returned (.tuple #[.string (cutB s c).1, .string (cutB s c).2.1, .bool (cutB s c).2.2]) ∧ Below w.heap.size w w' := by
  have HI := Lib.hid (fun W => Tryz.stringslite_Index_one s c W)
  have hz1 : (⟨#[c]⟩ : ByteArray).size = 1 := rfl
  unfold maxLen at hs
  rcases index_cases s.data.toList c with ⟨h1, h2⟩ | ⟨i, h1, h2, h3, h4⟩
  · have HC := Lib.hid (cutB_no h1)
    rw [h1] at HI
    have HC1 : Hid (RetC1 s c w) := Lib.hid (by
      unfold RetC1
      rw [HC.out]
      clear h1 h2
      go_enter Tryz.func125, Tryz.ntmps125
      go_wp2_with fail
      refine (HI.out _).mono ?_
      rintro e w2 ⟨rfl, rfl⟩
      go_wp2_with fail
      refine bodyPost_ret (v := .tuple #[.string s, .string ⟨#[]⟩, .bool false]) ?_ rfl ⟨rfl, Below.refl _ _⟩
      simp [results, Tryz.results125, go_sem])
    exact HC1.out.outer
  · have HC := Lib.hid (cutB_yes h1)
    rw [h1] at HI
    have hil : i < s.size := by simpa using h2
    have HC1 : Hid (RetC1 s c w) := Lib.hid (by
      unfold RetC1
      rw [HC.out]
      clear h1 h2 h3 h4
      have hi0 : (0 : Int) ≤ (i : Int) := by omega
      have hi1 : (i : Int) ≤ (s.size : Int) := by omega
      have hi2 : (i : Int) + 1 ≤ (s.size : Int) := by omega
      have HB := Lib.hid (fun n => below_drewN (Below.refl w.heap.size w) n)
      go_enter Tryz.func125, Tryz.ntmps125
      go_wp2_with fail
      refine (HI.out _).mono ?_
      rintro e w2 ⟨rfl, rfl⟩
      go_wp2_with fail
      go_quiet (fail)
      go_wp2_with fail
      refine bodyPost_ret (v := .tuple #[.string (s.extract 0 i), .string (s.extract (i + 1) s.size), .bool true]) ?_ rfl ⟨rfl, HB.out _⟩
      simp [results, Tryz.results125, go_sem])
    exact HC1.out.outer
end Go.Proofs.YtoddpmdjjgnpgaaGreatDoor
namespace Go.Proofs.YtoddpmdjjgnpgaaGreatDoor
open Go.RowKit Go.Shelf
set_option linter.unusedVariables false
attribute [local go_sem] Oper.semAt_some
/-- the three captured boxes: the separator, the rest of the text, the number of bytes kept -/
structure SeqBox (W : World) (Bp Bs Bv : Nat) (c : UInt8) (r : ByteArray) : Prop where
  sep : W.heap[Bp]? = some (.cells #[.string ⟨#[c]⟩] 9 (0, 0))
  rest : W.heap[Bs]? = some (.cells #[.string r] 9 (0, 0))
  save : W.heap[Bv]? = some (.cells #[.int .i64 0] 3 (0, 0))
/-- a round keeps them -/
def KpS (Bp Bs Bv : Nat) (W W' : World) : Prop := W'.heap[Bp]? = W.heap[Bp]? ∧ W'.heap[Bs]? = W.heap[Bs]? ∧ W'.heap[Bv]? = W.heap[Bv]?
theorem KpS.refl (Bp Bs Bv : Nat) (W : World) : KpS Bp Bs Bv W W := ⟨rfl, rfl, rfl⟩
theorem KpS.trans {Bp Bs Bv : Nat} {A B C : World} (h : KpS Bp Bs Bv A B) (k : KpS Bp Bs Bv B C) : KpS Bp Bs Bv A C := ⟨k.1.trans h.1, k.2.1.trans h.2.1, k.2.2.trans h.2.2⟩
theorem KpS.grown {Bp Bs Bv : Nat} {A B : World} {row : Option Nat} (hg : A.grownBy B row) (h1 : Bp < A.heap.size) (h2 : Bs < A.heap.size) (h3 : Bv < A.heap.size) (hr : ∀ k, row = some k → k ≠ Bp ∧ k ≠ Bs ∧ k ≠ Bv) : KpS Bp Bs Bv A B :=
  ⟨hg.block _ h1 (fun e => (hr _ e.symm).1 rfl), hg.block _ h2 (fun e => (hr _ e.symm).2.1 rfl), hg.block _ h3 (fun e => (hr _ e.symm).2.2 rfl)⟩
theorem SeqBox.kept {W W' : World} {Bp Bs Bv : Nat} {c : UInt8} {r : ByteArray} (h : SeqBox W Bp Bs Bv c r) (hk : KpS Bp Bs Bv W W') : SeqBox W' Bp Bs Bv c r := ⟨hk.1.trans h.sep, hk.2.1.trans h.rest, hk.2.2.trans h.save⟩
theorem SeqBox.set {W : World} {Bp Bs Bv : Nat} {c : UInt8} {r : ByteArray} (h : SeqBox W Bp Bs Bv c r) (h1 : Bp ≠ Bs) (h2 : Bv ≠ Bs) (x : ByteArray) : SeqBox (W.setCell ⟨Bs, 0, none⟩ (.string x)) Bp Bs Bv c x :=
  ⟨(Below.heap_setCell W ⟨Bs, 0, none⟩ _ _ h1).trans h.sep, Boxed.set (t := 9) (.string x) h.rest, (Below.heap_setCell W ⟨Bs, 0, none⟩ _ _ h2).trans h.save⟩
/-- how many bytes are left -/
def leftS (Bs : Nat) (W : World) : Nat := match W.cell? ⟨Bs, 0, none⟩ with
  | some (.string s) => s.size
  | _ => 0
theorem leftS_eq {Bs : Nat} {W : World} {s : ByteArray} (h : W.cell? ⟨Bs, 0, none⟩ = some (.string s)) : leftS Bs W = s.size := by
  unfold leftS; rw [h]
set_option maxRecDepth 100000 in
set_option maxHeartbeats 2000000 in
theorem splitSeq1_in (n l Bp Bs Bv : Nat) (c : UInt8) (s0 : ByteArray) (hs0 : s0.size ≤ 2 ^ 40) (hps : Bp ≠ Bs) (hvs : Bv ≠ Bs) (J Jx : List ByteArray → World → Prop)
    (hJs : ∀ pre W v, J pre W → J pre (W.setCell ⟨Bs, 0, none⟩ v))
    (hY : ∀ pre x W, J pre W → x.size ≤ 2 ^ 40 → (∃ post, splitB s0 c = pre ++ x :: post) → YieldAt Fence.wide (n - 1) Tryz.prog l #[.string x] W fun e W' =>
      (e = .returned (.bool true) ∧ J (pre ++ [x]) W' ∧ KpS Bp Bs Bv W W') ∨ (e = .returned (.bool false) ∧ Jx (pre ++ [x]) W'))
    (W : World) (hB : SeqBox W Bp Bs Bv c s0) (h0 : J [] W) :
    CallsIn Fence.wide n Tryz.prog 165 #[.func (.yield l) #[] #[], .pointer (some ⟨Bp, 0, none⟩), .pointer (some ⟨Bs, 0, none⟩), .pointer (some ⟨Bv, 0, none⟩)] W fun e W' => (∃ v, e = .returned v) ∧
      (J (splitB s0 c) W' ∨ ∃ pre, (∃ post, splitB s0 c = pre ++ post) ∧ Jx pre W') := by
  refine callsIn_of_wp Tryz.func165 rfl trivial ?_ rfl
  simp only [Tryz.ntmps165, List.size_toArray, List.length_cons, List.length_nil, Nat.reduceAdd, Nat.reduceSub, Array.replicate_succ, Array.replicate_zero, List.push_toArray, List.append_toArray, List.nil_append, List.cons_append]
  have hz1 : (⟨#[c]⟩ : ByteArray).size = 1 := rfl
  have p0 := Boxed.cell (t := 9) hB.sep
  have HB := Lib.hid hB
  have HJs := Lib.hid hJs
  have HY := Lib.hid hY
  have H0 := Lib.hid h0
  clear hB hJs hY h0
  gi_wp2
  gi_loopw [7] (fun _ wr => ∃ (pre : List ByteArray) (r : ByteArray), r.size ≤ 2 ^ 40 ∧ Hid (splitB s0 c = pre ++ splitB r c) ∧ Hid (SeqBox wr Bp Bs Bv c r) ∧ Hid (J pre wr)) (fun _ wr => leftS Bs wr)
  case atStart => exact ⟨[], s0, hs0, Lib.hid rfl, HB, H0⟩
  case round =>
    clear p0
    obtain ⟨pre, r, hr, HP, HS, HJ⟩ := hrel
    have p0 := Boxed.cell (t := 9) HS.out.sep
    have p1 := Boxed.cell (t := 9) HS.out.rest
    have p2 := Boxed.cell (t := 3) HS.out.save
    have HI := Lib.hid (Tryz.strings_Index_one r c wr)
    rcases split_next r c with ⟨h1, h2⟩ | ⟨i, h1, h2, h3⟩
    · rw [h1] at HI
      have HL := Lib.hid (show leftS Bs wr = r.size from leftS_eq p1)
      have HD : Hid (splitB s0 c = pre ++ [r]) := Lib.hid (by rw [HP.out, h2])
      obtain ⟨fn, tmps, assign, body, hy, hR⟩ := HY.out pre r wr HJ.out hr ⟨[], HD.out⟩
      have HR := Lib.hid hR
      clear h1 h2 hR
      gi_wp2
      refine ⟨trivial, fun h => Bool.noConfusion h, (callsIn_wide.2 HI.out).mono ?_⟩
      rintro e w' ⟨rfl, hww⟩
      replace hww := hww.symm
      subst hww
      gi_wp2
      refine ⟨fun h => Bool.noConfusion h, HR.out.mono ?_⟩
      rintro e W3 (⟨rfl, hJ3, hk3⟩ | ⟨rfl, hJx3⟩)
      · gi_wp2
        go_end0
        exact ⟨⟨_, rfl⟩, .inl (by rw [HD.out]; exact hJ3)⟩
      · gi_wp2
        go_end0
        exact ⟨⟨_, rfl⟩, .inr ⟨_, ⟨[], by rw [HD.out, List.append_nil]⟩, hJx3⟩⟩
    · rw [h1] at HI
      have hei : (r.extract 0 i).size ≤ 2 ^ 40 := by rw [ByteArray.size_extract]; omega
      have HD : Hid (splitB s0 c = pre ++ r.extract 0 i :: splitB (r.extract (i + 1) r.size) c) := Lib.hid (by rw [HP.out, h3])
      obtain ⟨fn, tmps, assign, body, hy, hR⟩ := HY.out pre (r.extract 0 i) wr HJ.out hei ⟨_, HD.out⟩
      have HR := Lib.hid hR
      have hi0 : ¬ (i : Int) < 0 := by omega
      have hi1 : (i : Int) ≤ (r.size : Int) := by omega
      have hi2 : (i : Int) + 1 ≤ (r.size : Int) := by omega
      have HI2 := Lib.hid h2
      clear h1 h3 hR
      gi_wp2
      refine ⟨trivial, fun h => Bool.noConfusion h, (callsIn_wide.2 HI.out).mono ?_⟩
      rintro e w' ⟨rfl, hww⟩
      replace hww := hww.symm
      subst hww
      gi_wp2
      refine ⟨fun h => Bool.noConfusion h, HR.out.mono ?_⟩
      rintro e W3 (⟨rfl, hJ3, hk3⟩ | ⟨rfl, hJx3⟩)
      · have HS3 := Lib.hid (HS.out.kept hk3)
        have q0 := Boxed.cell (t := 9) HS3.out.sep
        have q1 := Boxed.cell (t := 9) HS3.out.rest
        have q1f := Boxed.frozen (t := 9) HS3.out.rest
        have HS4 := Lib.hid (HS3.out.set hps hvs (r.extract (i + 1) r.size))
        have HJ4 := Lib.hid (HJs.out _ _ (.string (r.extract (i + 1) r.size)) hJ3)
        have HM : Hid (leftS Bs (W3.setCell ⟨Bs, 0, none⟩ (.string (r.extract (i + 1) r.size))) < leftS Bs wr) := Lib.hid (by
          rw [leftS_eq (Boxed.cell (t := 9) HS4.out.rest), leftS_eq p1, ByteArray.size_extract]
          have := HI2.out; omega)
        have hle : (r.extract (i + 1) r.size).size ≤ 2 ^ 40 := by rw [ByteArray.size_extract]; omega
        clear hk3 hJ3
        gi_wp2
        go_roundw
        case rel => exact ⟨pre ++ [r.extract 0 i], r.extract (i + 1) r.size, hle, Lib.hid (by rw [HD.out, List.append_assoc]; rfl), HS4, HJ4⟩
        case measure => exact HM.out
      · gi_wp2
        refine bodyPost_ret (results_none rfl _ _ _) rfl ?_
        exact ⟨⟨_, rfl⟩, .inr ⟨_, ⟨_, by rw [HD.out, List.append_assoc]; rfl⟩, hJx3⟩⟩
end Go.Proofs.YtoddpmdjjgnpgaaGreatDoor
namespace Go.Proofs.YtoddpmdjjgnpgaaGreatDoor
open Go.RowKit Go.Shelf
set_option linter.unusedVariables false
/-- what a round keeps: the three captured boxes, and the two blocks of the loop -/
def Kp5 (Bp Bs Bv D : Nat) (W W' : World) : Prop := KpS Bp Bs Bv W W' ∧ W'.heap[D]? = W.heap[D]? ∧ W'.heap[D + 1]? = W.heap[D + 1]?
theorem Kp5.refl (Bp Bs Bv D : Nat) (W : World) : Kp5 Bp Bs Bv D W W := ⟨KpS.refl _ _ _ _, rfl, rfl⟩
theorem Kp5.trans {Bp Bs Bv D : Nat} {A B C : World} (h : Kp5 Bp Bs Bv D A B) (k : Kp5 Bp Bs Bv D B C) : Kp5 Bp Bs Bv D A C := ⟨h.1.trans k.1, k.2.1.trans h.2.1, k.2.2.trans h.2.2⟩
theorem Kp5.grown {Bp Bs Bv D : Nat} {A B : World} {row : Option Nat} (hg : A.grownBy B row) (h1 : Bp < A.heap.size) (h2 : Bs < A.heap.size) (h3 : Bv < A.heap.size) (h4 : D + 1 < A.heap.size) (hr : ∀ k, row = some k → k ≠ Bp ∧ k ≠ Bs ∧ k ≠ Bv ∧ k ≠ D ∧ k ≠ D + 1) : Kp5 Bp Bs Bv D A B :=
  ⟨KpS.grown hg h1 h2 h3 (fun k e => ⟨(hr k e).1, (hr k e).2.1, (hr k e).2.2.1⟩), hg.block _ (by omega) (fun e => (hr _ e.symm).2.2.2.1 rfl), hg.block _ h4 (fun e => (hr _ e.symm).2.2.2.2 rfl)⟩
/-- how a round may be left -/
def seqPost (Bp Bs Bv D : Nat) (I Ix : List ByteArray → World → Prop) (xs : List ByteArray) (W : World) : Exit → Act → World → Prop
  | .normal, _, W' => Kp5 Bp Bs Bv D W W' ∧ I xs W'
  | .ret, _, W' => Kp5 Bp Bs Bv D W W' ∧ Ix xs W'
  | _, _, _ => False
theorem putObj_kpS {Bp Bs Bv : Nat} {W : World} {l : Nat} {o : Obj} (h1 : Bp ≠ l) (h2 : Bs ≠ l) (h3 : Bv ≠ l) : KpS Bp Bs Bv W (W.putObj l o) := ⟨World.putObj_heap_other h1, World.putObj_heap_other h2, World.putObj_heap_other h3⟩
theorem wpIn_rangeSeq {g : Operand} {ps : Array Tmp} {assign body : Code} {Q : Exit → Act → World → Prop} {a : Act} {w : World} {n Bp Bs Bv : Nat} {c : UInt8} {s0 : ByteArray}
    (hg : a.eval g = .func (.func 165) #[] #[.pointer (some ⟨Bp, 0, none⟩), .pointer (some ⟨Bs, 0, none⟩), .pointer (some ⟨Bv, 0, none⟩)]) (hps : ps.size = 1)
    (hs0 : s0.size ≤ 2 ^ 40) (hB : SeqBox w Bp Bs Bv c s0) (hp : Bp ≠ Bs) (hv : Bv ≠ Bs)
    (I Ix : List ByteArray → World → Prop) (hI : OwnFrom w.heap.size I) (hIx : OwnFrom w.heap.size Ix) (hIs : ∀ pre W v, I pre W → I pre (W.setCell ⟨Bs, 0, none⟩ v)) (h0 : I [] w) (a₁ : ByteArray → Act)
    (hassign : ∀ (l : Nat) (x : ByteArray) (W : World) (K : Act → World → Prop), K (a₁ x) W →
      assign.wpIn (Fence.wide.inRound l) (n - 1 - 1) Tryz.prog (Exit.then K (fun _ _ _ => False)) { tmps := (ps.zip #[.string x]).foldl (fun t (p, v) => t.setIfInBounds p v) a.tmps, defers := [] } W)
    (hbody : ∀ (l : Nat) (pre : List ByteArray) (x : ByteArray) (W : World), I pre W → w.heap.size + 1 < W.heap.size → x.size ≤ 2 ^ 40 → (∃ post, splitB s0 c = pre ++ x :: post) →
      body.wpIn (Fence.wide.inRound l) (n - 1 - 1) Tryz.prog (seqPost Bp Bs Bv w.heap.size I Ix (pre ++ [x]) W) (a₁ x) W)
    (hdone : ∀ (W : World), I (splitB s0 c) W → W.heap[w.heap.size]? = some (.deferred (some [])) → Q .normal { a with defers := { target := .collected w.heap.size, args := #[] } :: a.defers } W)
    (hstop : ∀ (pre : List ByteArray) (W : World), (∃ post, splitB s0 c = pre ++ post) → Ix pre W → W.heap[w.heap.size]? = some (.deferred (some [])) → Code.ret.wpIn Fence.wide n Tryz.prog Q { a with defers := { target := .collected w.heap.size, args := #[] } :: a.defers } W) :
    (Code.rangeFunc g ps assign body).wpIn Fence.wide n Tryz.prog Q a w := by
  have b1 : Bp < w.heap.size := (Array.getElem?_eq_some_iff.1 hB.sep).1
  have b2 : Bs < w.heap.size := (Array.getElem?_eq_some_iff.1 hB.rest).1
  have b3 : Bv < w.heap.size := (Array.getElem?_eq_some_iff.1 hB.save).1
  refine wpIn_rangeFunc fun fn hfn => ?_
  obtain ⟨rec, hrec⟩ : ∃ rec : LoopState → Option Code → Loop, rec = fun st pe => { state := st, pending := pe, fn, tmps := a.tmps, params := ps, assign, body, defers := w.heap.size } := ⟨_, rfl⟩
  obtain ⟨W1, hW1⟩ : ∃ W1, (w.alloc (.deferred (some []))).alloc (.loop (rec .ready none)) = W1 := ⟨_, rfl⟩
  have hsz : (w.alloc (.deferred (some []))).heap.size = w.heap.size + 1 := World.size_alloc _ _
  have hrd : W1.heap[w.heap.size + 1]? = some (.loop (rec .ready none)) := by
    rw [← hW1, ← hsz]; exact World.alloc_heap_new _ _
  have hdf : W1.heap[w.heap.size]? = some (.deferred (some [])) := by
    rw [← hW1]; exact (Below.heap_alloc _ _ _ (by rw [hsz]; omega)).trans (World.alloc_heap_new w _)
  have hk1 : KpS Bp Bs Bv w W1 := by
    have e : ∀ k, k < w.heap.size → W1.heap[k]? = w.heap[k]? := fun k hk => by
      rw [← hW1]; exact (Below.heap_alloc _ _ _ (by rw [hsz]; omega)).trans (Below.heap_alloc _ _ _ hk)
    exact ⟨e _ b1, e _ b2, e _ b3⟩
  have hI1 : I [] W1 := by rw [← hW1]; exact hI.alloc _ (hI.alloc _ h0)
  have eg : (callFunc 165 #[.func (.yield (w.heap.size + 1)) #[] #[], .pointer (some ⟨Bp, 0, none⟩), .pointer (some ⟨Bs, 0, none⟩), .pointer (some ⟨Bv, 0, none⟩)]).run Tryz.prog W1 = .ok (.enter 165 #[.func (.yield (w.heap.size + 1)) #[] #[], .pointer (some ⟨Bp, 0, none⟩), .pointer (some ⟨Bs, 0, none⟩), .pointer (some ⟨Bv, 0, none⟩)]) W1 := enters_of Tryz.func165 (by kernel_rfl) rfl _ _
  refine ⟨w.heap.size + 1, [{ target := .collected w.heap.size, args := #[] }], W1, { target := .fn (.func 165) #[.pointer (some ⟨Bp, 0, none⟩), .pointer (some ⟨Bs, 0, none⟩), .pointer (some ⟨Bv, 0, none⟩)], args := #[.func (.yield (w.heap.size + 1)) #[] #[]] }, W1, 165, #[.func (.yield (w.heap.size + 1)) #[] #[], .pointer (some ⟨Bp, 0, none⟩), .pointer (some ⟨Bs, 0, none⟩), .pointer (some ⟨Bv, 0, none⟩)], W1, ?_, ?_, fun _ _ => trivial, ?_, (fun h => Bool.noConfusion h), ?_⟩
  · rw [← hW1, hrec]; exact run_enterLoop_outer _ _ _ _ _
  · simp only [resolve, hg]
    simp [go_sem]
  · simp only [invoke]
    simp [go_sem, eg]
  refine CallsIn.mono (splitSeq1_in (n - 1) (w.heap.size + 1) Bp Bs Bv c s0 hs0 hp hv
    (fun pre W => I pre W ∧ W.heap[w.heap.size + 1]? = some (.loop (rec .ready none)) ∧ W.heap[w.heap.size]? = some (.deferred (some [])))
    (fun pre W => Ix pre W ∧ W.heap[w.heap.size + 1]? = some (.loop (rec .done (some .ret))) ∧ W.heap[w.heap.size]? = some (.deferred (some [])))
    (fun pre W v h => ⟨hIs _ _ _ h.1, (Below.heap_setCell _ _ _ _ (by show w.heap.size + 1 ≠ Bs; omega)).trans h.2.1, (Below.heap_setCell _ _ _ _ (by show w.heap.size ≠ Bs; omega)).trans h.2.2⟩)
    ?round W1 (hB.kept hk1) ⟨hI1, hrd, hdf⟩) ?_
  case round =>
    rintro pre x W ⟨hi, hl, hd⟩ hx hpost
    have hlt : w.heap.size + 1 < W.heap.size := (Array.getElem?_eq_some_iff.1 hl).1
    have hy := run_yield (P := Tryz.prog) (args := #[.string x]) hl (by rw [hrec]; exact hps.symm)
    rw [hrec] at hy
    refine ⟨fn, _, assign, body, hy, roundIn_of_wpIn hfn (hassign _ x W _ ⟨_, run_beginRound hl (by rw [hrec]), ?_⟩)⟩
    obtain ⟨Wb, hWb⟩ : ∃ Wb, W.putObj (w.heap.size + 1) (.loop { rec .ready none with state := .busy }) = Wb := ⟨_, rfl⟩
    have hl2 : Wb.heap[w.heap.size + 1]? = some (.loop { rec .ready none with state := .busy }) := by rw [← hWb]; exact World.putObj_heap_same hlt
    have hd2 : Wb.heap[w.heap.size]? = some (.deferred (some [])) := by rw [← hWb]; exact (World.putObj_heap_other (by omega)).trans hd
    have hk2 : KpS Bp Bs Bv W Wb := by rw [← hWb]; exact putObj_kpS (by omega) (by omega) (by omega)
    have hi2 : I pre Wb := by rw [← hWb]; exact hI.putObj _ hi (by omega) hl rfl
    have hlt2 : w.heap.size + 1 < Wb.heap.size := (Array.getElem?_eq_some_iff.1 hl2).1
    rw [hWb]
    refine wpIn_mono (hbody _ pre x Wb hi2 hlt2 hx hpost) ?_
    have fin : ∀ (jump : Option Code) (W3 : World), Kp5 Bp Bs Bv w.heap.size Wb W3 →
        (Instr.endRound (w.heap.size + 1) jump).run Tryz.prog W3 = .ok (.bool jump.isNone) (W3.putObj (w.heap.size + 1) (.loop (rec (if jump.isNone then .ready else .done) jump))) ∧
        W3.heap[w.heap.size + 1]? = some (.loop { rec .ready none with state := .busy }) ∧
        (W3.putObj (w.heap.size + 1) (.loop (rec (if jump.isNone then .ready else .done) jump))).heap[w.heap.size + 1]? = some (.loop (rec (if jump.isNone then .ready else .done) jump)) ∧
        (W3.putObj (w.heap.size + 1) (.loop (rec (if jump.isNone then .ready else .done) jump))).heap[w.heap.size]? = some (.deferred (some [])) := fun jump W3 hk3 => by
      have hl3 := hk3.2.2.trans hl2
      have hr := run_endRound (P := Tryz.prog) jump hl3
      rw [hrec] at hr hl3 ⊢
      exact ⟨hr, hl3, World.putObj_heap_same (Array.getElem?_eq_some_iff.1 hl3).1, (World.putObj_heap_other (by omega)).trans (hk3.2.1.trans hd2)⟩
    rintro e a3 W3 hpo
    cases e with
    | normal =>
      obtain ⟨hk3, hi3⟩ := hpo
      obtain ⟨hr, hl3, hl4, hd4⟩ := fin none W3 hk3
      exact ⟨_, _, hr, .inl ⟨rfl, ⟨hI.putObj _ hi3 (by omega) hl3 rfl, hl4, hd4⟩, (hk2.trans hk3.1).trans (putObj_kpS (by omega) (by omega) (by omega))⟩⟩
    | ret =>
      obtain ⟨hk3, hi3⟩ := hpo
      obtain ⟨hr, hl3, hl4, hd4⟩ := fin (some .ret) W3 hk3
      exact ⟨_, _, hr, .inr ⟨rfl, hIx.putObj _ hi3 (by omega) hl3 rfl, hl4, hd4⟩⟩
    | exit id => exact hpo.elim
    | goto t => exact hpo.elim
    | panic ch => exact hpo.elim
    | outgrown => exact hpo.elim
  rintro e W2 ⟨⟨v, rfl⟩, ⟨hi, hl, hd⟩ | ⟨pre, hpost, hi, hl, hd⟩⟩
  · refine ⟨none, _, by have h := run_endLoop (P := Tryz.prog) hl (by rw [hrec]; simp); rw [hrec] at h; exact h, hdone _ (hI.putObj _ hi (by omega) hl rfl) ((World.putObj_heap_other (by omega)).trans hd)⟩
  · refine ⟨some .ret, _, by have h := run_endLoop (P := Tryz.prog) hl (by rw [hrec]; simp); rw [hrec] at h; exact h, hstop pre _ hpost (hIx.putObj _ hi (by omega) hl rfl) ((World.putObj_heap_other (by omega)).trans hd)⟩
end Go.Proofs.YtoddpmdjjgnpgaaGreatDoor
