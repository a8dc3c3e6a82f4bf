/-
  ParseLinks of the reference.
-/
import Derived.Test.YtoddpmdjjgnpgaaGreatDoorGra01
import Derived.Deep.AppendLies
import Derived.Test.YtoddpmdjjgnpgaaGreatDoorGra05
import Derived.Deep.RegionHeld3
import Derived.Lib.Atoi
import Derived.Lib.AtoiAll
import Derived.Lib.IndexLaws
import Derived.Test.YtoddpmdjjgnpgaaGreatDoorGra09
import Derived.WideShapes
import Derived.Test.YtoddpmdjjgnpgaaGreatDoorGra03
import Derived.Deep.QuietTactic
namespace Go.Proofs.YtoddpmdjjgnpgaaGreatDoor
open Go.RowKit
set_option linter.unusedVariables false
theorem wpList_appB {P : Program} {ops : Array Oper} {rest : List Oper} {o : Oper} {a : Act} {Q : Exit → Act → World → Prop} {T tsl : TypeId} {z : Value} {size bytes : Nat} (hg : o.guard = none) (s x : Operand)
    (ho : o.op = .call { callee := .builtin .append, args := #[s, x], argTypes := #[tsl, tsl] }) (ht : P.underlying tsl = some (.slice T)) (hinfo : (P.info? T).map (fun i => (i.zero, i.size, i.bytes)) = some (some z, size, bytes))
    (hzs : z.cells.size = size) (hpos : 0 < size) {H : Nat} {wr : World} {v : Value} {n : Nat} {xs : List Value} (hs : a.eval s = v) (hb : wr.ownsRow H T size v n xs) (hH : H ≤ wr.heap.size) {ad : Addr} {c m : Nat} {news : List Value} (hx : a.eval x = .slice (some ad) m c)
    (hsrc : ∀ j u, news[j]? = some u → wr.cell? (ad.add j) = some u) (hn : news.length = m * size) (hm : 0 < m) (h1 : ∀ u ∈ news, u.oneCell' = true) (h63 : n + m ≤ maxLen) (hbytes : (n + m) * bytes ≤ 140737488355328)
    (hK : ∀ g cap w', w'.ownsRow H T size (.slice (some ⟨g, 0, none⟩) (n + m) cap) (n + m) (xs ++ news) → wr.grownBy w' v.ownBlock → (v.ownBlock = some g ∨ g = wr.heap.size) → wpList P ops Q rest (a.put o.dst (.slice (some ⟨g, 0, none⟩) (n + m) cap)) w') :
    wpList P ops Q (o :: rest) a wr := by
  obtain ⟨i0, hi, hz0, hz1, hz2⟩ := info_parts hinfo
  exact wpList_append_lies (w := wr) hg s x tsl ho H T i0 z size bytes ht hi hz0 hz1 hz2 hzs hpos v n xs hs hb ad m c news hx hn hsrc h1 hm h63 hbytes hH _ rfl fun g cap w' h2 h3 h4 _ => hK g cap w' h2 h3 h4
end Go.Proofs.YtoddpmdjjgnpgaaGreatDoor
namespace Go.Proofs.YtoddpmdjjgnpgaaGreatDoor
open Go.RowKit
set_option linter.unusedVariables false
/-- the cells of steps -/
def stepCells : List (Int × Int) → List Value
  | [] => []
  | p :: l => .int .i64 p.1 :: .int .i64 p.2 :: stepCells l
theorem stepCells_len : ∀ l : List (Int × Int), (stepCells l).length = l.length * 2
  | [] => rfl
  | p :: l => by simp only [stepCells, List.length_cons, stepCells_len l]; omega
/-- the step at a place -/
def nthP (l : List (Int × Int)) (j : Nat) : Int × Int := l.getD j (0, 0)
theorem stepCells_at : ∀ (l : List (Int × Int)) (j : Nat), j < l.length → (stepCells l)[j * 2]? = some (.int .i64 (nthP l j).1) ∧ (stepCells l)[j * 2 + 1]? = some (.int .i64 (nthP l j).2)
  | [], j, h => by simp at h
  | p :: l, 0, _ => by simp [stepCells, nthP]
  | p :: l, j + 1, h => by
    have := stepCells_at l j (by simpa using h)
    rw [show (j + 1) * 2 = j * 2 + 2 by omega, show j * 2 + 2 + 1 = (j * 2 + 1) + 2 by omega]
    have e1 : ∀ n, (stepCells (p :: l))[n + 2]? = (stepCells l)[n]? := fun n => rfl
    have e2 : nthP (p :: l) (j + 1) = nthP l j := rfl
    rw [e1, e1, e2]
    exact this
/-- a slice of steps -/
def StepsIn (w : World) (a : Option Addr) (l : List (Int × Int)) : Prop := CellsIn w a (stepCells l)
theorem StepsIn.later {w w' : World} {a : Option Addr} {l : List (Int × Int)} (h : StepsIn w a l) (hb : Below w.heap.size w w') : StepsIn w' a l := CellsIn.later h hb
theorem StepsIn.cell {w : World} {a : Option Addr} {l : List (Int × Int)} (h : StepsIn w a l) {i : Nat} (hi : i < l.length) :
    ∃ b off, a = some ⟨b, off, none⟩ ∧ b < w.heap.size ∧ ∀ j, j < l.length → w.cell? ⟨b, off + j * 2, none⟩ = some (.int .i64 (nthP l j).1) ∧ w.cell? ⟨b, off + j * 2 + 1, none⟩ = some (.int .i64 (nthP l j).2) := by
  rcases h with h | ⟨b, off, ha, hc⟩
  · have := stepCells_len l
    rw [h, List.length_nil] at this
    omega
  · have key : ∀ j, j < l.length → w.cell? ⟨b, off + j * 2, none⟩ = some (.int .i64 (nthP l j).1) ∧ w.cell? ⟨b, off + j * 2 + 1, none⟩ = some (.int .i64 (nthP l j).2) := fun j hj => by
      obtain ⟨h1, h2⟩ := stepCells_at l j hj
      have hlen := stepCells_len l
      have c1 := hc (j * 2) (by omega)
      have c2 := hc (j * 2 + 1) (by omega)
      rw [List.getElem?_eq_getElem (by omega)] at h1 h2
      rw [Option.some.inj h1] at c1
      rw [Option.some.inj h2] at c2
      exact ⟨c1, by rw [← Nat.add_assoc] at c2; exact c2⟩
    exact ⟨b, off, ha, World.block_lt_of_cell? w _ (key i hi).1, key⟩
end Go.Proofs.YtoddpmdjjgnpgaaGreatDoor
namespace Go.Proofs.YtoddpmdjjgnpgaaGreatDoor
open Go.RowKit
set_option linter.unusedVariables false
/-- the cells of links -/
def linkCells : List (Int × Int × Bool) → List Value
  | [] => []
  | p :: l => .int .i64 p.1 :: .int .i64 p.2.1 :: .bool p.2.2 :: linkCells l
theorem linkCells_len : ∀ l : List (Int × Int × Bool), (linkCells l).length = l.length * 3
  | [] => rfl
  | p :: l => by simp only [linkCells, List.length_cons, linkCells_len l]; omega
/-- the link at a place -/
def nthK (l : List (Int × Int × Bool)) (j : Nat) : Int × Int × Bool := l.getD j (0, 0, false)
theorem linkCells_at : ∀ (l : List (Int × Int × Bool)) (j : Nat), j < l.length → (linkCells l)[j * 3]? = some (.int .i64 (nthK l j).1) ∧ (linkCells l)[j * 3 + 1]? = some (.int .i64 (nthK l j).2.1) ∧ (linkCells l)[j * 3 + 2]? = some (.bool (nthK l j).2.2)
  | [], j, h => by simp at h
  | p :: l, 0, _ => by simp [linkCells, nthK]
  | p :: l, j + 1, h => by
    have := linkCells_at l j (by simpa using h)
    rw [show (j + 1) * 3 = j * 3 + 3 by omega, show j * 3 + 3 + 1 = (j * 3 + 1) + 3 by omega, show j * 3 + 3 + 2 = (j * 3 + 2) + 3 by omega]
    have e1 : ∀ n, (linkCells (p :: l))[n + 3]? = (linkCells l)[n]? := fun n => rfl
    have e2 : nthK (p :: l) (j + 1) = nthK l j := rfl
    rw [e1, e1, e1, e2]
    exact this
/-- a slice of links -/
def LinksIn (w : World) (a : Option Addr) (l : List (Int × Int × Bool)) : Prop := CellsIn w a (linkCells l)
theorem LinksIn.later {w w' : World} {a : Option Addr} {l : List (Int × Int × Bool)} (h : LinksIn w a l) (hb : Below w.heap.size w w') : LinksIn w' a l := CellsIn.later h hb
theorem LinksIn.cell {w : World} {a : Option Addr} {l : List (Int × Int × Bool)} (h : LinksIn w a l) {i : Nat} (hi : i < l.length) :
    ∃ b off, a = some ⟨b, off, none⟩ ∧ b < w.heap.size ∧ ∀ j, j < l.length → w.cell? ⟨b, off + j * 3, none⟩ = some (.int .i64 (nthK l j).1) ∧ w.cell? ⟨b, off + j * 3 + 1, none⟩ = some (.int .i64 (nthK l j).2.1) ∧ w.cell? ⟨b, off + j * 3 + 2, none⟩ = some (.bool (nthK l j).2.2) := by
  rcases h with h | ⟨b, off, ha, hc⟩
  · have := linkCells_len l
    rw [h, List.length_nil] at this
    omega
  · have key : ∀ j, j < l.length → w.cell? ⟨b, off + j * 3, none⟩ = some (.int .i64 (nthK l j).1) ∧ w.cell? ⟨b, off + j * 3 + 1, none⟩ = some (.int .i64 (nthK l j).2.1) ∧ w.cell? ⟨b, off + j * 3 + 2, none⟩ = some (.bool (nthK l j).2.2) := fun j hj => by
      obtain ⟨h1, h2, h3⟩ := linkCells_at l j hj
      have hlen := linkCells_len l
      have c1 := hc (j * 3) (by omega)
      have c2 := hc (j * 3 + 1) (by omega)
      have c3 := hc (j * 3 + 2) (by omega)
      rw [List.getElem?_eq_getElem (by omega)] at h1 h2 h3
      rw [Option.some.inj h1] at c1
      rw [Option.some.inj h2] at c2
      rw [Option.some.inj h3] at c3
      exact ⟨c1, by rw [← Nat.add_assoc] at c2; exact c2, by rw [← Nat.add_assoc] at c3; exact c3⟩
    exact ⟨b, off, ha, World.block_lt_of_cell? w _ (key i hi).1, key⟩
/-- the numbers are ints -/
def RngK (l : List (Int × Int × Bool)) : Prop := ∀ j, j < l.length → (-9223372036854775808 ≤ (nthK l j).1 ∧ (nthK l j).1 ≤ 9223372036854775807) ∧ (-9223372036854775808 ≤ (nthK l j).2.1 ∧ (nthK l j).2.1 ≤ 9223372036854775807)
def signB (b : Bool) : ByteArray := if b = true then ⟨#[45]⟩ else ⟨#[43]⟩
/-- the text of a link -/
def linkB (p : Int × Int × Bool) : ByteArray := signB p.2.2 ++ numB p.1 ++ ⟨#[64]⟩ ++ numB p.2.1
def linkTo (l : List (Int × Int × Bool)) (j : Nat) : List ByteArray := (l.take j).map linkB
theorem nthK_lt {l : List (Int × Int × Bool)} {j : Nat} (h : j < l.length) : nthK l j = l[j] := by simp [nthK, List.getD_eq_getElem?_getD, h]
/-- FormatLinks as a function of plain data -/
def fmtLinks (l : List (Int × Int × Bool)) : ByteArray := if l.length = 0 then ⟨#[61]⟩ else joinF (linkTo l l.length) ⟨#[32]⟩
theorem fmtLinks_pos {l : List (Int × Int × Bool)} (h : 0 < l.length) : fmtLinks l = joinF (linkTo l l.length) ⟨#[32]⟩ := by simp only [fmtLinks, if_neg (show ¬ l.length = 0 by omega)]
end Go.Proofs.YtoddpmdjjgnpgaaGreatDoor
namespace Go.Proofs.YtoddpmdjjgnpgaaGreatDoor
open Go.RowKit
set_option linter.unusedVariables false
theorem dig_val {d : Nat} (h : d < 10) : Lib.digitVal (UInt8.ofNat (48 + d)) = some d := by
  have e : (UInt8.ofNat (48 + d)).toNat = 48 + d := by simp; omega
  unfold Lib.digitVal
  rw [e, if_pos (by omega)]
  congr 1; omega
theorem dig_of {b : UInt8} {d : Nat} (h : Lib.digitVal b = some d) : b.toNat = 48 + d ∧ d ≤ 9 := by
  unfold Lib.digitVal at h
  split at h
  · simp only [Option.some.injEq] at h; omega
  · cases h
theorem decFrom_app : ∀ (l : List UInt8) (acc n d : Nat) (b : UInt8), Lib.decFrom acc l = some n → Lib.digitVal b = some d → Lib.decFrom acc (l ++ [b]) = some (n * 10 + d)
  | [], acc, n, d, b, h, hb => by
    simp only [Lib.decFrom, Option.some.injEq] at h
    subst h
    simp [Lib.decFrom, hb]
  | a :: t, acc, n, d, b, h, hb => by
    simp only [List.cons_append, Lib.decFrom] at h ⊢
    cases e : Lib.digitVal a with
    | none => rw [e] at h; cases h
    | some x => rw [e] at h; exact decFrom_app t _ n d b h hb
theorem decFrom_digits (u : Nat) : Lib.decFrom 0 (Lib.decDigits u) = some u := by
  induction u using Nat.strongRecOn with
  | _ u ih =>
    by_cases h : u < 10
    · rw [decDigits_small h]; simp only [Lib.decFrom, dig_val h, Nat.zero_mul, Nat.zero_add]
    · rw [decDigits_big (by omega), decFrom_app _ _ _ _ _ (ih (u / 10) (by omega)) (dig_val (Nat.mod_lt _ (by omega)))]
      congr 1; omega
theorem decFrom_ge : ∀ (l : List UInt8) (acc n : Nat), Lib.decFrom acc l = some n → acc ≤ n
  | [], acc, n, h => by simp only [Lib.decFrom, Option.some.injEq] at h; omega
  | a :: t, acc, n, h => by
    simp only [Lib.decFrom] at h
    cases e : Lib.digitVal a with
    | none => rw [e] at h; cases h
    | some x => rw [e] at h; have := decFrom_ge t _ n h; omega
theorem decFrom_pre : ∀ (l : List UInt8) (acc n j : Nat), Lib.decFrom acc l = some n → ∃ v, Lib.decFrom acc (l.take j) = some v ∧ v ≤ n
  | l, acc, n, 0, h => ⟨acc, by simp [Lib.decFrom], decFrom_ge l acc n h⟩
  | [], acc, n, j + 1, h => by
    simp only [Lib.decFrom, Option.some.injEq] at h
    exact ⟨acc, by simp [Lib.decFrom], by omega⟩
  | a :: t, acc, n, j + 1, h => by
    simp only [List.take_succ_cons, Lib.decFrom] at h ⊢
    cases e : Lib.digitVal a with
    | none => rw [e] at h; cases h
    | some x => rw [e] at h; exact decFrom_pre t _ n j h
theorem dec_step {l : List UInt8} {u j v : Nat} (h : Lib.decFrom 0 l = some u) (hj : j < l.length) (hv : Lib.decFrom 0 (l.take j) = some v) : ∃ d, (l[j]).toNat = 48 + d ∧ d ≤ 9 ∧ Lib.decFrom 0 (l.take (j + 1)) = some (v * 10 + d) ∧ v * 10 + d ≤ u := by
  obtain ⟨d, hd⟩ := Lib.digit_of_decFrom l 0 u h j l[j] (List.getElem?_eq_getElem hj)
  have h1 := Lib.decFrom_take l j 0 v l[j] d hv (List.getElem?_eq_getElem hj) hd
  obtain ⟨x, hx, hxu⟩ := decFrom_pre l 0 u (j + 1) h
  rw [h1] at hx
  simp only [Option.some.injEq] at hx
  exact ⟨d, (dig_of hd).1, (dig_of hd).2, h1, by omega⟩
theorem pu_of : ∀ (l : List UInt8) (acc n : Nat), Lib.decFrom acc l = some n → n < 18446744073709551616 → Lib.parseUint10 acc l = .ok n
  | [], acc, n, h, _ => by
    simp only [Lib.decFrom, Option.some.injEq] at h
    simp [Lib.parseUint10, h]
  | a :: t, acc, n, h, hn => by
    simp only [Lib.decFrom] at h
    cases e : Lib.digitVal a with
    | none => rw [e] at h; cases h
    | some x =>
      rw [e] at h
      have h' : Lib.decFrom (acc * 10 + x) t = some n := h
      have hg := decFrom_ge t _ n h'
      obtain ⟨h1, h2⟩ := dig_of e
      have ex : a.toNat - 48 = x := by omega
      rw [Lib.parseUint10, if_pos ⟨by omega, by omega⟩, ex, if_neg (by omega), if_neg (by omega)]
      exact pu_of t _ n h' hn
theorem decDigits_ne (u : Nat) : Lib.decDigits u ≠ [] := fun e => by
  have h := congrArg List.length e
  rw [Lib.decDigits_length] at h
  have := Lib.nDigits_pos u
  simp at h; omega
theorem mag_of {u : Nat} (h : u < 18446744073709551616) : Lib.parseMag (Lib.decDigits u) = .ok u := by
  unfold Lib.parseMag
  rw [if_neg (decDigits_ne u)]
  exact pu_of _ _ _ (decFrom_digits u) h
theorem decDigits_dig (u : Nat) : ∀ b ∈ Lib.decDigits u, 48 ≤ b.toNat ∧ b.toNat ≤ 57 := fun b hb => by
  obtain ⟨j, hj, rfl⟩ := List.getElem_of_mem hb
  obtain ⟨v, hv, _⟩ := decFrom_pre (Lib.decDigits u) 0 u j (decFrom_digits u)
  obtain ⟨d, h1, h2, _⟩ := dec_step (decFrom_digits u) hj hv
  omega
theorem atoi_itoa {n : Int} (h0 : -9223372036854775808 ≤ n) (h1 : n ≤ 9223372036854775807) : Lib.atoiAll (Lib.itoa n) = .ok n := by
  by_cases hn : n < 0
  · have e : Lib.itoa n = 45 :: Lib.decDigits n.natAbs := by unfold Lib.itoa; rw [if_pos hn]
    have e45 : (45 : UInt8).toNat = 45 := rfl
    rw [e]
    unfold Lib.atoiAll
    simp only [e45]
    rw [if_pos (Or.inr trivial), mag_of (by omega)]
    simp only [not_true_eq_false, false_and, if_false, true_and]
    rw [if_neg (by omega)]
    simp only [if_true]
    congr 1; omega
  · have e : Lib.itoa n = Lib.decDigits n.toNat := by unfold Lib.itoa; rw [if_neg hn]
    rw [e]
    have hm := mag_of (u := n.toNat) (by omega)
    have hd := decDigits_dig n.toNat
    cases hl : Lib.decDigits n.toNat with
    | nil => exact absurd hl (decDigits_ne _)
    | cons c r =>
      rw [hl] at hm hd
      have hc := hd c (by simp)
      unfold Lib.atoiAll
      simp only []
      rw [if_neg (by omega), hm]
      simp only []
      rw [if_neg (by omega), if_neg (by omega), if_neg (by omega)]
      congr 1; omega
/-- the text s is the numeral of n -/
def IsNum (s : ByteArray) (n : Int) : Prop := (-9223372036854775808 ≤ n ∧ n ≤ 9223372036854775807) ∧ s = numB n
theorem IsNum.ok {s : ByteArray} {n : Int} (h : IsNum s n) : Lib.atoiAll s.data.toList = .ok n := by
  obtain ⟨⟨h0, h1⟩, rfl⟩ := h
  exact atoi_itoa h0 h1
theorem IsNum.uniq {s : ByteArray} {n m : Int} (h : IsNum s n) (h' : IsNum s m) : n = m := by
  have := h.ok.symm.trans h'.ok
  injection this
/-- what ParseInt hands back -/
def RetPI (s : ByteArray) (w : World) (e : Ending) (w' : World) : Prop := ∃ (n : Int) (b : Bool), e = .returned (.tuple #[.int .i64 n, .bool b]) ∧ ((b = true ∧ IsNum s n) ∨ (b = false ∧ n = 0 ∧ ∀ m, ¬ IsNum s m)) ∧ Below w.heap.size w w'
theorem RetPI.yes {s : ByteArray} {n : Int} {w w' : World} (h : IsNum s n) (hb : Below w.heap.size w w') : RetPI s w (.returned (.tuple #[.int .i64 n, .bool true])) w' := ⟨n, true, rfl, .inl ⟨rfl, h⟩, hb⟩
theorem RetPI.no {s : ByteArray} {w w' : World} (h : ∀ m, ¬ IsNum s m) (hb : Below w.heap.size w w') : RetPI s w (.returned (.tuple #[.int .i64 0, .bool false])) w' := ⟨0, false, rfl, .inr ⟨rfl, rfl, h⟩, hb⟩
end Go.Proofs.YtoddpmdjjgnpgaaGreatDoor
namespace Go.Proofs.YtoddpmdjjgnpgaaGreatDoor
open Go.RowKit
set_option linter.unusedVariables false
/-- the parts of a row of bytes between the bytes c -/
def parL (c : UInt8) : List UInt8 → List (List UInt8)
  | [] => [[]]
  | x :: t => if x = c then [] :: parL c t else match parL c t with
    | [] => [[x]]
    | p :: q => (x :: p) :: q
theorem parL_ne (c : UInt8) : ∀ l, parL c l ≠ []
  | [] => by simp [parL]
  | x :: t => by
    unfold parL
    split
    · simp
    · split <;> simp
theorem parL_app (c : UInt8) (b : List UInt8) : ∀ a, parL c (a ++ c :: b) = parL c a ++ parL c b
  | [] => by simp [parL]
  | x :: t => by
    have ih := parL_app c b t
    rw [List.cons_append, parL, parL]
    by_cases h : x = c
    · rw [if_pos h, if_pos h, ih]; rfl
    · rw [if_neg h, if_neg h, ih]
      cases e : parL c t with
      | nil => exact absurd e (parL_ne c t)
      | cons p q => rfl
theorem parL_no {c : UInt8} : ∀ {l : List UInt8}, c ∉ l → parL c l = [l]
  | [], _ => rfl
  | x :: t, h => by
    have hx : ¬ x = c := fun e => h (by simp [e])
    have ht : c ∉ t := fun e => h (by simp [e])
    rw [parL, if_neg hx, parL_no ht]
theorem parL_snoc {c x : UInt8} (hx : ¬ x = c) : ∀ {a : List UInt8} {q : List (List UInt8)} {p : List UInt8}, parL c a = q ++ [p] → parL c (a ++ [x]) = q ++ [p ++ [x]]
  | [], q, p, h => by
    cases q with
    | nil =>
      simp [parL] at h
      subst h
      simp [parL, hx]
    | cons y q => simp [parL] at h
  | y :: t, q, p, h => by
    rw [parL] at h
    rw [List.cons_append, parL]
    by_cases hy : y = c
    · rw [if_pos hy] at h ⊢
      cases q with
      | nil =>
        simp only [List.nil_append, List.cons.injEq] at h
        exact absurd h.2 (parL_ne c t)
      | cons z q =>
        simp only [List.cons_append, List.cons.injEq] at h
        rw [parL_snoc hx h.2, ← h.1]; rfl
    · rw [if_neg hy] at h ⊢
      cases e : parL c t with
      | nil => exact absurd e (parL_ne c t)
      | cons p' q' =>
        rw [e] at h
        simp only [] at h
        cases q with
        | nil =>
          simp only [List.nil_append, List.cons.injEq] at h
          obtain ⟨h1, h2⟩ := h
          subst h2
          have e' : parL c t = [] ++ [p'] := e
          rw [parL_snoc hx e', ← h1]; rfl
        | cons z q =>
          simp only [List.cons_append, List.cons.injEq] at h
          obtain ⟨h1, h2⟩ := h
          have e' : parL c t = (p' :: q) ++ [p] := by rw [e, h2]; rfl
          rw [parL_snoc hx e', ← h1]; rfl
theorem ext_list (s : ByteArray) (a b : Nat) : (s.extract a b).data.toList = (s.data.toList.take b).drop a := by
  rw [ByteArray.data_extract, Array.toList_extract, List.extract_eq_take_drop, List.drop_take]
def mkB (l : List UInt8) : ByteArray := ⟨l.toArray⟩
theorem mkB_data (s : ByteArray) : mkB s.data.toList = s := rfl
theorem data_mkB (l : List UInt8) : (mkB l).data.toList = l := rfl
theorem hitB_at {s : ByteArray} {c : UInt8} {i : Nat} (h : i < s.size) : hitB s c i = (s.data.toList[i]'(by simpa using h) == c) := by
  unfold hitB; rw [dif_pos h]; rfl
theorem spT_par (s : ByteArray) (c : UInt8) : ∀ i, i ≤ s.size → parL c (s.data.toList.take i) = (spT s c i).1.map (fun b => b.data.toList) ++ [(s.extract (spT s c i).2 i).data.toList]
  | 0, _ => by simp [parL, spT]
  | i + 1, hi => by
    have ih := spT_par s c i (by omega)
    have hle := (spT_le s c i).1
    have hlt : i < s.data.toList.length := by have h : s.data.toList.length = s.size := Array.length_toList; omega
    have et : s.data.toList.take (i + 1) = s.data.toList.take i ++ [s.data.toList[i]] := by rw [List.take_succ_eq_append_getElem hlt]
    cases e : spT s c i with
    | mk l fr =>
      rw [e] at ih hle
      simp only [] at ih hle
      cases hb : hitB s c i
      · have hx : ¬ s.data.toList[i] = c := fun e2 => by rw [hitB_at (by omega), e2] at hb; simp at hb
        rw [spT_no e hb, et, parL_snoc hx ih]
        simp only []
        congr 2
        rw [ext_list, ext_list, et, List.drop_append_of_le_length (by rw [List.length_take]; omega)]
      · have hx : s.data.toList[i] = c := by rw [hitB_at (by omega)] at hb; exact eq_of_beq hb
        rw [spT_hit e hb, et, hx, show ([c] : List UInt8) = c :: [] from rfl, parL_app, ih]
        simp only [List.map_append, List.map_cons, List.map_nil]
        congr 1
        rw [ext_list, List.drop_eq_nil_of_le (by rw [List.length_take]; omega)]
        rfl
theorem splitB_par (s : ByteArray) (c : UInt8) : splitB s c = (parL c s.data.toList).map mkB := by
  have h := spT_par s c s.size (Nat.le_refl _)
  rw [List.take_of_length_le (by simp)] at h
  rw [h]
  unfold splitB
  rw [List.map_append, List.map_map, List.map_cons, List.map_nil, mkB_data]
  congr 1
  exact (List.map_id _).symm
/-! ### a link -/
abbrev LkZ := Int × Int × Bool
theorem itoa_free {n : Int} {c : UInt8} (h : c.toNat < 45 ∨ 57 < c.toNat) : c ∉ Lib.itoa n := fun hm => by
  unfold Lib.itoa at hm
  split at hm
  · rcases List.mem_cons.1 hm with e | hm
    · have : c.toNat = 45 := by rw [e]; rfl
      omega
    · have := decDigits_dig _ c hm; omega
  · have := decDigits_dig _ c hm; omega
def signL (b : Bool) : UInt8 := if b = true then 45 else 43
theorem linkB_list (x : LkZ) : (linkB x).data.toList = signL x.2.2 :: (Lib.itoa x.1 ++ 64 :: Lib.itoa x.2.1) := by
  obtain ⟨r, p, b⟩ := x
  unfold linkB signB signL numB
  cases b <;> simp [ByteArray.data_append]
theorem linkB_free (x : LkZ) : (32 : UInt8) ∉ (linkB x).data.toList := fun hm => by
  rw [linkB_list] at hm
  rcases List.mem_cons.1 hm with e | hm
  · unfold signL at e; split at e <;> simp at e
  · rcases List.mem_append.1 hm with hm | hm
    · exact itoa_free (by simp) hm
    · rcases List.mem_cons.1 hm with e | hm
      · simp at e
      · exact itoa_free (by simp) hm
theorem linkB_pos (x : LkZ) : 0 < (linkB x).size := by
  have e : (linkB x).size = (linkB x).data.toList.length := Array.length_toList.symm
  rw [e, linkB_list]; simp
theorem linkB_tail (x : LkZ) : (linkB x).extract 1 (linkB x).size = mkB (Lib.itoa x.1 ++ 64 :: Lib.itoa x.2.1) := by
  have e : (linkB x).data.toList.length = (linkB x).size := Array.length_toList
  rw [← mkB_data (ByteArray.extract _ _ _), ext_list, List.take_of_length_le (Nat.le_of_eq e), linkB_list]; rfl
theorem linkB_split (x : LkZ) : splitB ((linkB x).extract 1 (linkB x).size) 64 = [numB x.1, numB x.2.1] := by
  rw [linkB_tail, splitB_par, data_mkB, parL_app, parL_no (itoa_free (by simp)), parL_no (itoa_free (by simp))]; rfl
theorem linkB_head (x : LkZ) (h : 0 < (linkB x).size) : (((((linkB x)[0]'h).toNat : Nat) : Int) == 45) = x.2.2 := by
  have e : (linkB x).data.toList[0]? = some (signL x.2.2) := by rw [linkB_list]; rfl
  rw [Array.getElem?_toList, Array.getElem?_eq_getElem (by exact h)] at e
  have e2 : (linkB x)[0] = signL x.2.2 := Option.some.inj e
  rw [e2]; unfold signL; cases x.2.2 <;> rfl
/-- the parts of a text of links -/
theorem join_par {l : List ByteArray} {c : UInt8} (hf : ∀ s ∈ l, c ∉ s.data.toList) : ∀ j, j < l.length → parL c (joinTo l ⟨#[c]⟩ (j + 1)).data.toList = (l.take (j + 1)).map (fun s => s.data.toList)
  | 0, hj => by
    rw [joinTo_one, nthS_lt hj, parL_no (hf _ (List.getElem_mem hj)), List.take_succ_eq_append_getElem hj]; simp
  | j + 1, hj => by
    have ih := join_par hf j (by omega)
    rw [joinTo_succ _ _ (by omega), nthS_lt hj, List.take_succ_eq_append_getElem hj, List.map_append, ← ih]
    simp only [ByteArray.data_append, Array.toList_append]
    rw [List.append_assoc]
    show parL c (_ ++ ([c] ++ _)) = _
    rw [List.singleton_append, parL_app, parL_no (hf _ (List.getElem_mem hj))]
    rfl
theorem fmt_split {L : List LkZ} (h : 0 < L.length) : splitB (fmtLinks L) 32 = L.map linkB := by
  have e : linkTo L L.length = L.map linkB := by unfold linkTo; rw [List.take_length]
  rw [fmtLinks_pos h, splitB_par, e]
  have hl : (L.map linkB).length = L.length := List.length_map ..
  have hj := join_par (l := L.map linkB) (c := 32) (fun s hs => by obtain ⟨x, _, rfl⟩ := List.mem_map.1 hs; exact linkB_free x) (L.length - 1) (by rw [hl]; omega)
  rw [show L.length - 1 + 1 = L.length by omega, List.take_of_length_le (by rw [hl]; exact Nat.le_refl _)] at hj
  unfold joinF
  rw [hl, hj, List.map_map]
  exact (List.map_congr_left fun s _ => mkB_data s).trans (List.map_id _)
end Go.Proofs.YtoddpmdjjgnpgaaGreatDoor
namespace Go.Proofs.YtoddpmdjjgnpgaaGreatDoor
open Go.RowKit
set_option linter.unusedVariables false
def InK (x : LkZ) : Prop := (-9223372036854775808 ≤ x.1 ∧ x.1 ≤ 9223372036854775807) ∧ (-9223372036854775808 ≤ x.2.1 ∧ x.2.1 ≤ 9223372036854775807)
theorem RngK.mem {L : List LkZ} (h : RngK L) : ∀ x ∈ L, InK x := fun x hx => by
  obtain ⟨j, hj, rfl⟩ := List.getElem_of_mem hx
  have := h j hj
  rw [nthK_lt hj] at this
  exact this
theorem RngK.app {L : List LkZ} (h : RngK L) {x : LkZ} (hx : InK x) : RngK (L ++ [x]) := fun j hj => by
  rw [nthK_lt hj]
  by_cases h' : j < L.length
  · rw [List.getElem_append_left h']
    have := h j h'
    rwa [nthK_lt h'] at this
  · have e : j = L.length := by rw [List.length_append] at hj; simp at hj; omega
    subst e
    rw [List.getElem_append_right (Nat.le_refl _)]
    simpa [InK] using hx
theorem RngK.nil : RngK [] := fun j hj => absurd hj (Nat.not_lt_zero _)
def lkCell (x : LkZ) : List Value := [.int .i64 x.1, .int .i64 x.2.1, .bool x.2.2]
theorem linkCells_app : ∀ (Q : List LkZ) (x : LkZ), linkCells (Q ++ [x]) = linkCells Q ++ lkCell x
  | [], _ => rfl
  | p :: Q, x => by simp only [List.cons_append, linkCells, linkCells_app Q x]
/-- no list of links has this text -/
def NoLk (t : ByteArray) : Prop := ∀ L : List LkZ, 0 < L.length → RngK L → fmtLinks L ≠ t
/-- the answer -/
def AnsK (t : ByteArray) (v : List LkZ) (b : Bool) : Prop := (t = ⟨#[61]⟩ ∧ v = [] ∧ b = true) ∨ (t ≠ ⟨#[61]⟩ ∧ 0 < v.length ∧ RngK v ∧ fmtLinks v = t ∧ b = true) ∨ (t ≠ ⟨#[61]⟩ ∧ NoLk t ∧ v = [] ∧ b = false)
theorem linkB_inj {x y : LkZ} (hx : InK x) (hy : InK y) (h : linkB x = linkB y) : x = y := by
  have h1 := linkB_split x
  rw [h, linkB_split y] at h1
  simp only [List.cons.injEq, and_true] at h1
  have e1 : IsNum (numB x.1) y.1 := ⟨hy.1, h1.1.symm⟩
  have e2 : IsNum (numB x.2.1) y.2.1 := ⟨hy.2, h1.2.symm⟩
  have f1 : IsNum (numB x.1) x.1 := ⟨hx.1, rfl⟩
  have f2 : IsNum (numB x.2.1) x.2.1 := ⟨hx.2, rfl⟩
  have g1 := linkB_head x (linkB_pos x)
  have g2 := linkB_head y (linkB_pos y)
  obtain ⟨a, b, c⟩ := x
  obtain ⟨a', b', c'⟩ := y
  have k1 := f1.uniq e1
  have k2 := f2.uniq e2
  simp only [] at k1 k2 g1 g2
  subst k1; subst k2
  have k3 : c = c' := by
    rw [← g1, ← g2]
    have : ∀ (s s' : ByteArray) (e : s = s') (h : 0 < s.size) (h' : 0 < s'.size), (((s[0]'h).toNat : Int) == 45) = (((s'[0]'h').toNat : Int) == 45) := by
      intro s s' e h h'; subst e; rfl
    exact this _ _ h _ _
  rw [k3]
theorem fmt_inj {L M : List LkZ} (h0 : 0 < L.length) (h1 : 0 < M.length) (hL : RngK L) (hM : RngK M) (h : fmtLinks L = fmtLinks M) : L = M := by
  have e := fmt_split h0
  rw [h, fmt_split h1] at e
  have hl : L.length = M.length := by have := congrArg List.length e; simpa using this.symm
  refine List.ext_getElem hl fun i hi hi' => ?_
  have e2 : (M.map linkB)[i]? = (L.map linkB)[i]? := by rw [e]
  rw [List.getElem?_map, List.getElem?_map, List.getElem?_eq_getElem hi, List.getElem?_eq_getElem hi'] at e2
  simp only [Option.map_some, Option.some.injEq] at e2
  exact (linkB_inj (hM.mem _ (List.getElem_mem _)) (hL.mem _ (List.getElem_mem _)) e2).symm
theorem AnsK.uniq {t : ByteArray} {v v' : List LkZ} {b b' : Bool} (h : AnsK t v b) (h' : AnsK t v' b') : v = v' ∧ b = b' := by
  rcases h with ⟨ht, hv, hb⟩ | ⟨ht, h0, hr, hf, hb⟩ | ⟨ht, hn, hv, hb⟩ <;> rcases h' with ⟨ht', hv', hb'⟩ | ⟨ht', h0', hr', hf', hb'⟩ | ⟨ht', hn', hv', hb'⟩
  · exact ⟨hv.trans hv'.symm, hb.trans hb'.symm⟩
  · exact absurd ht ht'
  · exact absurd ht ht'
  · exact absurd ht' ht
  · exact ⟨fmt_inj h0 h0' hr hr' (hf.trans hf'.symm), hb.trans hb'.symm⟩
  · exact absurd hf (hn' _ h0 hr)
  · exact absurd ht' ht
  · exact absurd hf' (hn _ h0' hr')
  · exact ⟨hv.trans hv'.symm, hb.trans hb'.symm⟩
theorem AnsK.rng {t : ByteArray} {v : List LkZ} {b : Bool} (h : AnsK t v b) : RngK v := by
  rcases h with ⟨_, rfl, _⟩ | ⟨_, _, hr, _, _⟩ | ⟨_, _, rfl, _⟩
  · exact RngK.nil
  · exact hr
  · exact RngK.nil
/-- what a part must be, read to a link -/
structure PartG (G : ByteArray → LkZ → Prop) : Prop where
  link : ∀ y x, InK y → G (linkB y) x → x = y
/-- the number of a text, 0 where it is none -/
def VN (s : ByteArray) (n : Int) : Prop := IsNum s n ∨ ((∀ m, ¬ IsNum s m) ∧ n = 0)
theorem VN.num {n m : Int} (hn : -9223372036854775808 ≤ n ∧ n ≤ 9223372036854775807) (h : VN (numB n) m) : m = n := by
  rcases h with h | ⟨h, _⟩
  · exact h.uniq ⟨hn, rfl⟩
  · exact absurd ⟨hn, rfl⟩ (h n)
theorem VN.rng {s : ByteArray} {n : Int} (h : VN s n) : -9223372036854775808 ≤ n ∧ n ≤ 9223372036854775807 := by
  rcases h with h | ⟨_, rfl⟩
  · exact h.1
  · omega
theorem fmt_len {L : List LkZ} (h : 0 < L.length) : L.length ≤ (fmtLinks L).size + 1 := by
  have e := congrArg List.length (fmt_split h)
  rw [List.length_map] at e
  have h1 := (spT_le (fmtLinks L) 32 (fmtLinks L).size).2
  unfold splitB at e
  rw [List.length_append] at e
  simp at e
  omega
theorem AnsK.len {t : ByteArray} {v : List LkZ} {b : Bool} (h : AnsK t v b) : v.length ≤ t.size + 1 := by
  rcases h with ⟨_, rfl, _⟩ | ⟨_, h0, hr, hf, _⟩ | ⟨_, _, rfl, _⟩
  · simp
  · rw [← hf]; exact fmt_len h0
  · simp
end Go.Proofs.YtoddpmdjjgnpgaaGreatDoor
namespace Go.Proofs.YtoddpmdjjgnpgaaGreatDoor
open Go.RowKit
set_option linter.unusedVariables false
end Go.Proofs.YtoddpmdjjgnpgaaGreatDoor
namespace Go.Proofs.YtoddpmdjjgnpgaaGreatDoor
open Go.RowKit Go.ChangeShapes Go.WideShapes Go.ChangeAt Go.Joins Go.Deep
set_option linter.unusedVariables false
end Go.Proofs.YtoddpmdjjgnpgaaGreatDoor
namespace Go.Proofs.YtoddpmdjjgnpgaaGreatDoor
open Go.RowKit
set_option linter.unusedVariables false
theorem rows_neL {w : World} {base base' size size' n m : Nat} {T T' : TypeId} {v u : Value} {xs ys : List Value} (h : w.ownsRow base T size v n xs) (h' : w.ownsRow base' T' size' u m ys) (hT : T ≠ T') : ∀ k, v.ownBlock = some k → u.ownBlock ≠ some k := fun k hk e => by
  rcases h.2 with ⟨rfl, _⟩ | ⟨g, cap, cur, rfl, _, hgb, _⟩
  · simp [Value.ownBlock] at hk
  · rcases h'.2 with ⟨rfl, _⟩ | ⟨g', cap', cur', rfl, _, hgb', _⟩
    · simp [Value.ownBlock] at e
    · obtain rfl : g = k := by simpa [Value.ownBlock] using hk
      obtain rfl : g' = g := by simpa [Value.ownBlock] using e
      rw [hgb] at hgb'
      simp only [Option.some.injEq, Obj.cells.injEq] at hgb'
      exact hT hgb'.2.1
theorem bld_keptL {T : TypeId} {size : Nat} {w wr wr' : World} {v : Value} {n : Nat} {xs : List Value} {own : Option Nat} (h : Bld T size w wr v n xs) (hg : wr.grownBy wr' own) (hne : ∀ k, v.ownBlock = some k → own ≠ some k) (ho : ∀ k, own = some k → w.heap.size ≤ k) : Bld T size w wr' v n xs := by
  refine ⟨h.1.kept hg ?_, h.2.grown hg h.2.size ho⟩
  cases hv : v.ownBlock with
  | none => exact .inl rfl
  | some k => exact .inr fun e => hne k hv (e.symm ▸ rfl)
/-- the parts' row, and the links so far -/
structure PkS (w wr : World) (P : List ByteArray) (vP : Value) (Q : List LkZ) (vQ : Value) : Prop where
  parts : Bld 9 1 w wr vP P.length (strVals P)
  links : Bld 114 3 w wr vQ Q.length (linkCells Q)
theorem PkS.later {w wr wr' : World} {P : List ByteArray} {Q : List LkZ} {vP vQ : Value} (h : PkS w wr P vP Q vQ) (hb : Below wr.heap.size wr wr') : PkS w wr' P vP Q vQ := ⟨h.parts.later hb, h.links.later hb⟩
theorem PkS.put {w wr w' : World} {P : List ByteArray} {Q : List LkZ} {vP vQ v' : Value} {x : LkZ} {cs : Array Value} {T : TypeId} (h : PkS w wr P vP Q vQ) (hb : Bld 114 3 w w' v' (Q.length + 1) (linkCells Q ++ lkCell x)) (hg : (wr.alloc (.cells cs T)).grownBy w' vQ.ownBlock) : PkS w w' P vP (Q ++ [x]) v' := by
  have h1 := h.later (alloc_belowS wr (.cells cs T))
  refine ⟨bld_keptL h1.parts hg (fun k hk e => rows_neL h1.parts.1 h1.links.1 (by decide) k hk e) (fun k hk => (h1.links.1.lt k hk).1), ?_⟩
  rw [linkCells_app, List.length_append]; exact hb
end Go.Proofs.YtoddpmdjjgnpgaaGreatDoor
