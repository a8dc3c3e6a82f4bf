/-
  TailsOf and IsCode of the reference.
-/
import Derived.Test.YtmgdglghjlggnaaGra02
import Derived.Test.YtmgdglghjlggnaaGra03
import Derived.Test.YtmgdglghjlggnaaGra01
import Derived.ProofKit
import Derived.OpenShut
import Derived.Lib.SmallJoins
import Derived.SliceStrings
namespace Go.Proofs.Ytmgdglghjlggnaa
open Go.RowKit
set_option linter.unusedVariables false
/-- a slice of strings -/
def StrsIn (w : World) (a : Option Addr) (l : List ByteArray) : Prop := CellsIn w a (l.map Value.string)
theorem StrsIn.later {w w' : World} {a : Option Addr} {l : List ByteArray} (h : StrsIn w a l) (hb : Below w.heap.size w w') : StrsIn w' a l := CellsIn.later h hb
/-- the string at a place -/
def nthS (l : List ByteArray) (i : Nat) : ByteArray := l.getD i ⟨#[]⟩
theorem nthS_lt {l : List ByteArray} {i : Nat} (h : i < l.length) : nthS l i = l[i] := by simp [nthS, List.getD_eq_getElem?_getD, h]
theorem StrsIn.cell {w : World} {a : Option Addr} {l : List ByteArray} (h : StrsIn w a l) {i : Nat} (hi : i < l.length) :
    ∃ b off, a = some ⟨b, off, none⟩ ∧ b < w.heap.size ∧ ∀ j, j < l.length → w.cell? ⟨b, off + j, none⟩ = some (.string (nthS l j)) := by
  rcases h with h | ⟨b, off, ha, hc⟩
  · simp at h; simp [h] at hi
  · have key : ∀ j, j < l.length → w.cell? ⟨b, off + j, none⟩ = some (.string (nthS l j)) := fun j hj => by
      have := hc j (by simpa using hj)
      rw [nthS_lt hj]
      simpa using this
    exact ⟨b, off, ha, World.block_lt_of_cell? w _ (key i hi), key⟩
theorem ret_str {a b : ByteArray} (h : a = b) : Ending.returned (.string a) = .returned (.string b) := by rw [h]
theorem alloc_at (w : World) (o : Obj) : (w.alloc o).heap[w.heap.size]? = some o := by unfold World.alloc; simp
end Go.Proofs.Ytmgdglghjlggnaa
namespace Go.Proofs.Ytmgdglghjlggnaa
set_option linter.unusedVariables false
section
variable {α : Type} (F : List α → Prop) (N : List α → List α → Prop)
/-- behind the sets out (the last one first) the set S comes up -/
def comesB : List (List α) → List α → Prop
  | [], S => F S
  | X :: out, S => comesB out X ∧ N X S
/-- the run is over: the set that would come is empty or was there -/
def endsB (out : List (List α)) (S : List α) : Prop := comesB F N out S ∧ (S = [] ∨ S ∈ out)
/-- every set of the run came up where it was neither empty nor there before -/
def freshB : List (List α) → Prop
  | [] => True
  | X :: out => freshB out ∧ comesB F N out X ∧ X ≠ [] ∧ ¬ X ∈ out
variable {F N}
theorem comes_uniq (hF : ∀ S S', F S → F S' → S = S') (hN : ∀ X S S', N X S → N X S' → S = S') : ∀ {out : List (List α)} {S S' : List α}, comesB F N out S → comesB F N out S' → S = S'
  | [], S, S', h, h' => hF S S' h h'
  | X :: out, S, S', h, h' => hN X S S' h.2 h'.2
/-- of two runs one is the beginning of the other -/
theorem fresh_pre (hF : ∀ S S', F S → F S' → S = S') (hN : ∀ X S S', N X S → N X S' → S = S') : ∀ {out out' : List (List α)}, freshB F N out → freshB F N out' → out.length ≤ out'.length → ∃ t, out' = t ++ out
  | out, [], h, h', hl => by
    have : out = [] := List.eq_nil_of_length_eq_zero (by simpa using hl)
    exact ⟨[], by rw [this]; rfl⟩
  | out, X :: out', h, h', hl => by
    rcases Nat.lt_or_ge out'.length out.length with hlt | hge
    · cases out with
      | nil => simp at hlt
      | cons Y out =>
        have hlen : out.length = out'.length := by simp at hl hlt; omega
        obtain ⟨t, ht⟩ := fresh_pre hF hN h.1 h'.1 (Nat.le_of_eq hlen)
        have ht0 : t = [] := by
          have := congrArg List.length ht
          rw [List.length_append] at this
          exact List.eq_nil_of_length_eq_zero (by omega)
        subst ht0
        rw [List.nil_append] at ht
        subst ht
        have := comes_uniq hF hN h.2.1 h'.2.1
        exact ⟨[], by rw [this]; rfl⟩
    · obtain ⟨t, ht⟩ := fresh_pre hF hN h h'.1 hge
      exact ⟨X :: t, by rw [ht]; rfl⟩
/-- a run that is over is one -/
theorem ends_uniq (hF : ∀ S S', F S → F S' → S = S') (hN : ∀ X S S', N X S → N X S' → S = S') {out out' : List (List α)} {S S' : List α} (h : freshB F N out) (h' : freshB F N out') (he : endsB F N out S) (he' : endsB F N out' S') : out = out' := by
  have key : ∀ {o o' : List (List α)} {R R' : List α}, freshB F N o → freshB F N o' → endsB F N o R → o.length < o'.length → False := by
    intro o o' R R' h1 h2 h3 hl
    obtain ⟨t, ht⟩ := fresh_pre hF hN h1 h2 (Nat.le_of_lt hl)
    have htl : 0 < t.length := by
      have := congrArg List.length ht
      rw [List.length_append] at this; omega
    -- the set that comes behind o stands in o'
    have hsub : ∀ {t : List (List α)}, 0 < t.length → freshB F N (t ++ o) → ∃ X, comesB F N o X ∧ X ≠ [] ∧ ¬ X ∈ o := by
      intro t
      induction t with
      | nil => intro h; simp at h
      | cons Y t ih =>
        intro _ hf
        rcases Nat.eq_zero_or_pos t.length with h0 | h0
        · have : t = [] := List.eq_nil_of_length_eq_zero h0
          subst this
          exact ⟨Y, hf.2.1, hf.2.2.1, hf.2.2.2⟩
        · exact ih h0 hf.1
    obtain ⟨X, hx, hx1, hx2⟩ := hsub htl (by rw [← ht]; exact h2)
    have := comes_uniq hF hN hx h3.1
    subst this
    rcases h3.2 with e | e
    · exact hx1 e
    · exact hx2 e
  rcases Nat.lt_trichotomy out.length out'.length with hl | hl | hl
  · exact (key (R' := S') h h' he hl).elim
  · obtain ⟨t, ht⟩ := fresh_pre hF hN h h' (Nat.le_of_eq hl)
    have : t = [] := by
      have := congrArg List.length ht
      rw [List.length_append] at this
      exact List.eq_nil_of_length_eq_zero (by omega)
    subst this
    exact ht.symm
  · exact (key (R' := S) h' h he' hl).elim
end
end Go.Proofs.Ytmgdglghjlggnaa
namespace Go.Proofs.Ytmgdglghjlggnaa
open Go.RowKit
set_option linter.unusedVariables false
/-- an answer that tells whether P -/
def RetP (P : Prop) (w : World) (e : Ending) (w' : World) : Prop := ∃ b : Bool, (b = true ↔ P) ∧ e = .returned (.bool b) ∧ Below w.heap.size w w'
theorem RetP.yes {P : Prop} {w w' : World} (h : P) (hb : Below w.heap.size w w') : RetP P w (.returned (.bool true)) w' := ⟨true, ⟨fun _ => h, fun _ => rfl⟩, rfl, hb⟩
theorem RetP.no {P : Prop} {w w' : World} (h : ¬ P) (hb : Below w.heap.size w w') : RetP P w (.returned (.bool false)) w' := ⟨false, ⟨fun h => (by cases h), fun h2 => absurd h2 h⟩, rfl, hb⟩
theorem bytes_eq {a b : ByteArray} : (a.toList == b.toList) = true ↔ a = b := by
  rw [beq_iff_eq, ByteArray.toList_eq, ByteArray.toList_eq]
  constructor
  · intro h
    obtain ⟨⟨x⟩⟩ := a
    obtain ⟨⟨y⟩⟩ := b
    have : x = y := h
    rw [this]
  · intro h; rw [h]
set_option maxRecDepth 20000 in
set_option maxHeartbeats 400000 in
theorem l04Has_any (l : List ByteArray) (v : ByteArray) (a : Option Addr) (cap : Nat) (w : World) (hl : StrsIn w a l) (hlen : l.length ≤ 2 ^ 40) :
    Calls Try.prog 37 #[.slice a l.length cap, .string v] w (RetP (v ∈ l) w) := by
  have HL := Lib.hid hl
  clear hl
  go_enter Try.func37, Try.ntmps37
  go_wp2_with fail
  go_loopw [9] (fun i wr => ∃ j : Nat, j ≤ l.length ∧ i = .int .i64 (j : Nat) ∧ Hid (∀ j', j' < j → nthS l j' ≠ v) ∧ Below w.heap.size w wr) (fun i _ => l.length - (intOf i).toNat)
  case atStart => exact ⟨0, Nat.zero_le _, rfl, Lib.hid (fun j' h => absurd h (Nat.not_lt_zero _)), Below.refl _ _⟩
  case round =>
    obtain ⟨j, hj, rfl, hno, hbw⟩ := hrel
    by_cases hlt : j < l.length
    · obtain ⟨b, off, rfl, hb, hc⟩ := (HL.out.later hbw).cell hlt
      have c1 := hc j hlt
      have HM : Hid (nthS l j = v → v ∈ l) := Lib.hid (fun h => by rw [← h, nthS_lt hlt]; exact List.getElem_mem _)
      have HN : Hid (nthS l j ≠ v → ∀ j', j' < j + 1 → nthS l j' ≠ v) := Lib.hid (fun h j' hj' => by
        by_cases e : j' = j
        · rw [e]; exact h
        · exact hno.out j' (by omega))
      clear hc
      generalize nthS l j = u at *
      cases hq : (u.toList == v.toList)
      · have F := Lib.hid (HN.out (fun h => by rw [bytes_eq.2 h] at hq; cases hq))
        go_wp2_with fail
        go_roundw
        case rel => exact ⟨j + 1, by omega, by go_num, F, hbw⟩
        case measure => simp [intOf]; omega
      · have F := Lib.hid (HM.out (bytes_eq.1 hq))
        go_wp2_with fail
        go_ret
        exact RetP.yes F.out hbw
    · have F : Hid (¬ v ∈ l) := Lib.hid (fun h => by
        obtain ⟨j', hj', he⟩ := List.getElem_of_mem h
        exact hno.out j' (by omega) (by rw [nthS_lt hj']; exact he))
      go_wp2_with fail
      go_ret
      exact RetP.no F.out hbw
end Go.Proofs.Ytmgdglghjlggnaa
namespace Go.Proofs.Ytmgdglghjlggnaa
open Go.RowKit
set_option linter.unusedVariables false
theorem Try.infoStr : (Try.prog.info? 9).map (fun i => (i.zero, i.size, i.bytes)) = some (some (.string ⟨#[]⟩), 1, 16) := by kernel_rfl
def strVals (l : List ByteArray) : List Value := l.map Value.string
theorem owns_strs {w : World} {base : Nat} {T : TypeId} {size : Nat} {a : Option Addr} {n m cap : Nat} {l : List ByteArray} (h : w.ownsRow base T size (.slice a m cap) n (strVals l)) : StrsIn w a l := owns_cells h
end Go.Proofs.Ytmgdglghjlggnaa
namespace Go.Proofs.Ytmgdglghjlggnaa
open Go.RowKit
set_option linter.unusedVariables false
def strSum (l : List ByteArray) : Nat := (l.map ByteArray.size).sum
end Go.Proofs.Ytmgdglghjlggnaa
namespace Go.Proofs.Ytmgdglghjlggnaa
open Go.ChangeShapes Go.WideShapes Go.ChangeAt Go.RowKit Go.Joins Go.Deep
set_option linter.unusedVariables false
/-- all arguments read as they did, if below the old heap's size nothing has turned -/
theorem trodAll_below {H : Type} {enc : TypeId × Value → H} {P : Program} (hl : laidOutB P = true) {W W' : World} (hb : Below W.heap.size W W') :
    ∀ (ts : List TypeId) (vs : List Value) (ds : List (DataW H)) (ps : List MemPlace), (∀ t ∈ ts, P.readableRec t = true ∧ t < P.types.size) → (∀ x ∈ ps, x.block < W.heap.size) →
      DataW.TrodAll enc P W 0 (fun _ => true) true ts vs ds ps → DataW.TrodAll enc P W' 0 (fun b => decide (b < W.heap.size)) true ts vs ds ps
  | [], vs, ds, ps, _, _, h => by
    cases vs <;> cases ds <;> simp_all [DataW.TrodAll]
  | t :: ts, vs, ds, ps, hr, hp, h => by
    cases vs with
    | nil => cases ds <;> simp [DataW.TrodAll] at h
    | cons v vs =>
      cases ds with
      | nil => simp [DataW.TrodAll] at h
      | cons d ds =>
        obtain ⟨p, p', h1, h2, rfl⟩ := h
        exact ⟨p, p', Below.trod hl (hr t (by simp)).1 (hr t (by simp)).2 h1 hb (fun x hx => hp x (by simp [hx])),
          trodAll_below hl hb ts vs ds p' (fun t' ht' => hr t' (by simp [ht'])) (fun x hx => hp x (by simp [hx])) h2, rfl⟩
/-- what a law's row asks behind the walk -/
theorem law_post {H : Type} {enc : TypeId × Value → H} {P : Program} {f : Func} {s : ChangeSpec} {W W' : World} {args : Array Value} {ds : List (DataW H)} {before : List MemPlace} {tb : TypeId}
    (hl : laidOutB P = true) (hr : ∀ t ∈ f.params.toList, P.readableRec t = true ∧ t < P.types.size) (hv : s.vars = [])
    (hW : DataW.Whole enc P f.params.toList s.vars false W args.toList ds [] before) (hft : f.resultTypes = #[tb]) (htb : P.underlying tb = some .bool)
    (hfn : s.fn H (ds ++ []) = { results := [.lit (.bool true)], args := ds }) (hb : Below W.heap.size W W') :
    s.post enc P f false true false false W args (.bool true) W' := by
  have hW' := hW
  obtain ⟨p, q, hA0, hV, hpq, hfz, hnd⟩ := hW'
  rw [hv] at hV
  obtain ⟨_, rfl⟩ := trodVars_none hV
  simp only [List.append_nil] at hpq
  subst hpq
  have hlt : ∀ x ∈ before, x.block < W.heap.size := fun x hx => hW.lt x hx
  refine ⟨ds, [], before, [], before, [], hW, ?_, ?_, ?_, ?_, fun h => by cases h⟩
  · rw [hfn, hft]
    exact trodAll_cons_mk (shut_bool htb _) trodAll_mk0
  · rw [hfn]
    exact trodAll_below hl hb _ _ _ _ hr hlt hA0
  · rw [hfn, hv]
    rfl
  · exact hb.frame _
end Go.Proofs.Ytmgdglghjlggnaa
namespace Go.Proofs.Ytmgdglghjlggnaa
open Go.RowKit Go.ChangeShapes Go.WideShapes Go.ChangeAt
set_option linter.unusedVariables false
end Go.Proofs.Ytmgdglghjlggnaa
namespace Go.Proofs.Ytmgdglghjlggnaa
open Go.RowKit
set_option linter.unusedVariables false
/-- the bytes of a word -/
def blW (s : ByteArray) : List UInt8 := s.data.toList
def blsW (l : List ByteArray) : List (List UInt8) := l.map blW
theorem blW_inj {a b : ByteArray} (h : blW a = blW b) : a = b := by
  obtain ⟨⟨x⟩⟩ := a
  obtain ⟨⟨y⟩⟩ := b
  have : x = y := h
  rw [this]
theorem blsW_mem {u : ByteArray} {l : List ByteArray} : blW u ∈ blsW l ↔ u ∈ l := by
  unfold blsW
  rw [List.mem_map]
  constructor
  · rintro ⟨x, hx, he⟩; rw [← blW_inj he]; exact hx
  · intro h; exact ⟨u, h, rfl⟩
theorem blsW_len (l : List ByteArray) : (blsW l).length = l.length := by simp [blsW]
/-- strictly sorted -/
def SortedS (l : List ByteArray) : Prop := SortedW (blsW l)
theorem SortedS.ext {x y : List ByteArray} (hx : SortedS x) (hy : SortedS y) (h : ∀ u, u ∈ x ↔ u ∈ y) : x = y := by
  have key : ∀ {x y : List ByteArray}, (∀ u, u ∈ x ↔ u ∈ y) → ∀ u, u ∈ blsW x → u ∈ blsW y := fun h u hu => by
    obtain ⟨v, hv, rfl⟩ := List.mem_map.1 hu
    exact blsW_mem.2 ((h v).1 hv)
  have h1 := SortedW.ext hx hy (fun u => ⟨key h u, key (fun u => (h u).symm) u⟩)
  exact (List.map_inj_right (fun a b => blW_inj)).1 h1
theorem nodup_bls {x : List ByteArray} (h : (blsW x).Nodup) : x.Nodup := by
  unfold blsW at h
  unfold List.Nodup at *
  rw [List.pairwise_map] at h
  exact h.imp (fun h e => h (by rw [e]))
theorem SortedS.nodup {x : List ByteArray} (hx : SortedS x) : x.Nodup := nodup_bls (SortedW.nodup hx)
theorem SortedS.nil : SortedS [] := List.Pairwise.nil
/-- what a call hands back: the sorted set of the words that have a property -/
def RetSet (P : ByteArray → Prop) (w : World) (e : Ending) (w' : World) : Prop := ∃ q, SortedS q ∧ (∀ u, u ∈ q ↔ P u) ∧ RetSl 9 1 q.length (strVals q) w e w'
theorem owns_cap {w : World} {base : Nat} {T : TypeId} {size n m cap : Nat} {a : Option Addr} {xs : List Value} (h : w.ownsRow base T size (.slice a m cap) n xs) : n ≤ cap ∧ cap ≤ maxLen := by
  rcases h.2 with ⟨hv, h0⟩ | ⟨g, cap', cur, hv, hb, hg, hn, hc, hs, ht⟩
  · cases hv; exact ⟨by omega, by unfold maxLen; omega⟩
  · cases hv; exact ⟨hn, hc⟩
theorem owns_someS {w : World} {base : Nat} {T : TypeId} {v : Value} {n : Nat} {xs : List Value} (h : w.ownsRow base T 1 v n xs) (h0 : 0 < n) : ∃ g cap, v = .slice (some ⟨g, 0, none⟩) n cap := by
  rcases h.2 with ⟨hv, h1⟩ | ⟨g, cap', cur, hv, _⟩
  · omega
  · exact ⟨g, cap', hv⟩
end Go.Proofs.Ytmgdglghjlggnaa
namespace Go.Proofs.Ytmgdglghjlggnaa
open Go.RowKit
set_option linter.unusedVariables false
/-- p begins s -/
def begP (s p : ByteArray) : Prop := p.size ≤ s.size ∧ s.extract 0 p.size = p
end Go.Proofs.Ytmgdglghjlggnaa
namespace Go.Proofs.Ytmgdglghjlggnaa
open Go.RowKit
set_option linter.unusedVariables false
/-- WordOk as a function of plain data -/
def wordOkB (k : Int) (s : ByteArray) : Bool := inB k 1 4 && (decide (s.size ≤ 16) && allB (letB k) s)
theorem letB_true {k : Int} {c : UInt8} (h : letB k c = true) : 97 ≤ (c.toNat : Int) ∧ (c.toNat : Int) - 97 < k := by
  simp [letB, inB] at h; omega
theorem wordOk_notk {k : Int} {s : ByteArray} (h : inB k 1 4 = false) : wordOkB k s = false := by simp [wordOkB, h]
theorem wordOk_long {k : Int} {s : ByteArray} (h : 16 < s.size) : wordOkB k s = false := by
  simp [wordOkB, show ¬ s.size ≤ 16 by omega]
theorem wordOk_all {k : Int} {s : ByteArray} (h : inB k 1 4 = true) (h2 : s.size ≤ 16) : wordOkB k s = allB (letB k) s := by simp [wordOkB, h, h2]
end Go.Proofs.Ytmgdglghjlggnaa
namespace Go.Proofs.Ytmgdglghjlggnaa
open Go.RowKit
set_option linter.unusedVariables false
theorem StrsIn.take {w : World} {b off : Nat} {l : List ByteArray} (h : ∀ j, j < l.length → w.cell? ⟨b, off + j, none⟩ = some (.string (nthS l j))) (i : Nat) (hi : i ≤ l.length) : StrsIn w (some ⟨b, off, none⟩) (l.take i) := by
  refine .inr ⟨b, off, rfl, fun j hj => ?_⟩
  have hj2 : j < i := by simpa using Nat.lt_of_lt_of_le hj (by simp; omega)
  rw [h j (by omega), List.getElem_map, List.getElem_take, nthS_lt (by omega)]
def wordP (l : List ByteArray) (i : Nat) : Prop := wordOkB 4 (nthS l i) = true ∧ (1 ≤ (nthS l i).size ∧ (nthS l i).size ≤ 6) ∧ ¬ nthS l i ∈ l.take i
def listP (l : List ByteArray) : Prop := (1 ≤ l.length ∧ l.length ≤ 8) ∧ ∀ i, i < l.length → wordP l i
end Go.Proofs.Ytmgdglghjlggnaa
namespace Go.Proofs.Ytmgdglghjlggnaa
open Go.RowKit
set_option linter.unusedVariables false
/-- what is left of x behind y -/
def tailB (x y : ByteArray) : ByteArray := x.extract y.size x.size
/-- the pairs of places before (j, k), in rows of n -/
def PairTo (n : Nat) (R : Nat → Nat → ByteArray → Prop) (j k : Nat) (u : ByteArray) : Prop := ∃ i' k', k' < n ∧ (i' < j ∨ (i' = j ∧ k' < k)) ∧ R i' k' u
theorem PairTo.zero {n : Nat} {R : Nat → Nat → ByteArray → Prop} {u : ByteArray} : ¬ PairTo n R 0 0 u := by
  rintro ⟨i', k', _, h, _⟩; omega
theorem PairTo.next {n : Nat} {R : Nat → Nat → ByteArray → Prop} {j k : Nat} (hk : k < n) (u : ByteArray) : PairTo n R j (k + 1) u ↔ PairTo n R j k u ∨ R j k u := by
  constructor
  · rintro ⟨i', k', h1, h2, h3⟩
    by_cases e : i' = j ∧ k' = k
    · rw [e.1, e.2] at h3; exact .inr h3
    · exact .inl ⟨i', k', h1, by omega, h3⟩
  · rintro (⟨i', k', h1, h2, h3⟩ | h)
    · exact ⟨i', k', h1, by omega, h3⟩
    · exact ⟨j, k, hk, by omega, h⟩
theorem PairTo.row {n : Nat} {R : Nat → Nat → ByteArray → Prop} {j : Nat} (u : ByteArray) : PairTo n R j n u ↔ PairTo n R (j + 1) 0 u := by
  constructor
  · rintro ⟨i', k', h1, h2, h3⟩; exact ⟨i', k', h1, by omega, h3⟩
  · rintro ⟨i', k', h1, h2, h3⟩; exact ⟨i', k', h1, by omega, h3⟩
/-- the members of the first set -/
def firstM (l : List ByteArray) (u : ByteArray) : Prop := ∃ x ∈ l, ∃ y ∈ l, x ≠ y ∧ begP x y ∧ u = tailB x y
/-- the members of the set behind X -/
def nextM (l X : List ByteArray) (u : ByteArray) : Prop := ∃ t ∈ X, ∃ w ∈ l, (t.size ≠ 0 ∧ begP w t ∧ u = tailB w t) ∨ (begP t w ∧ u = tailB t w)
theorem nthS_mem {l : List ByteArray} {i : Nat} (h : i < l.length) : nthS l i ∈ l := by rw [nthS_lt h]; exact List.getElem_mem h
theorem mem_nthS {l : List ByteArray} {u : ByteArray} (h : u ∈ l) : ∃ i, i < l.length ∧ nthS l i = u := by
  obtain ⟨i, hi, he⟩ := List.getElem_of_mem h
  exact ⟨i, hi, by rw [nthS_lt hi, he]⟩
/-- a proper end of a word of the list -/
def sufP (l : List ByteArray) (u : ByteArray) : Prop := ∃ w ∈ l, ∃ i, 1 ≤ i ∧ i ≤ w.size ∧ u = w.extract i w.size
/-- all of them -/
def uniW (l : List ByteArray) : List ByteArray := ⟨#[]⟩ :: l.flatMap fun w => (List.range (w.size - 1)).map fun i => w.extract (i + 1) w.size
theorem size_zero {u : ByteArray} (h : u.size = 0) : u = ⟨#[]⟩ := by
  obtain ⟨⟨x⟩⟩ := u
  cases x with
  | nil => rfl
  | cons a t => simp [ByteArray.size] at h
theorem sufP_uni {l : List ByteArray} {u : ByteArray} (h : sufP l u) : u ∈ uniW l := by
  obtain ⟨w, hw, i, h1, h2, rfl⟩ := h
  unfold uniW
  rw [List.mem_cons]
  by_cases e : i = w.size
  · left; exact size_zero (by rw [ByteArray.size_extract]; omega)
  · right
    rw [List.mem_flatMap]
    exact ⟨w, hw, List.mem_map.2 ⟨i - 1, List.mem_range.2 (by omega), by rw [show i - 1 + 1 = i by omega]⟩⟩
theorem uniW_len {l : List ByteArray} (h1 : l.length ≤ 8) (h2 : ∀ w ∈ l, w.size ≤ 6) : (uniW l).length ≤ 41 := by
  have key : ∀ l : List ByteArray, (∀ w ∈ l, w.size ≤ 6) → (l.flatMap fun w => (List.range (w.size - 1)).map fun i => w.extract (i + 1) w.size).length ≤ 5 * l.length := by
    intro l
    induction l with
    | nil => intro _; simp
    | cons a l ih =>
      intro h
      have h3 := ih (fun w hw => h w (List.mem_cons_of_mem _ hw))
      have h4 := h a List.mem_cons_self
      rw [List.flatMap_cons, List.length_append, List.length_map, List.length_range, List.length_cons]
      omega
  have := key l h2
  unfold uniW
  rw [List.length_cons]
  omega
theorem sufP_size {l : List ByteArray} (h2 : ∀ w ∈ l, w.size ≤ 6) {u : ByteArray} (h : sufP l u) : u.size ≤ 6 := by
  obtain ⟨w, hw, i, h1, h3, rfl⟩ := h
  have := h2 w hw
  rw [ByteArray.size_extract]; omega
theorem firstM_suf {l : List ByteArray} (h1 : ∀ w ∈ l, 1 ≤ w.size) {u : ByteArray} (h : firstM l u) : sufP l u := by
  obtain ⟨x, hx, y, hy, hne, hb, rfl⟩ := h
  exact ⟨x, hx, y.size, h1 y hy, hb.1, rfl⟩
theorem extract_ext (w : ByteArray) (i j : Nat) (h : i + j ≤ w.size) : (w.extract i w.size).extract j (w.extract i w.size).size = w.extract (i + j) w.size := by
  rw [ByteArray.extract_extract, ByteArray.size_extract]
  congr 1
  omega
theorem nextM_suf {l X : List ByteArray} (h1 : ∀ w ∈ l, 1 ≤ w.size) (hX : ∀ t ∈ X, sufP l t) {u : ByteArray} (h : nextM l X u) : sufP l u := by
  obtain ⟨t, ht, w, hw, ⟨h2, h3, rfl⟩ | ⟨h3, rfl⟩⟩ := h
  · exact ⟨w, hw, t.size, by omega, h3.1, rfl⟩
  · obtain ⟨x, hx, i, hi1, hi2, rfl⟩ := hX t ht
    have h4 := h3.1
    rw [ByteArray.size_extract] at h4
    exact ⟨x, hx, i + w.size, by omega, by omega, extract_ext x i w.size (by omega)⟩
theorem nodup_subL {q U : List (List UInt8)} (hq : q.Nodup) (h : ∀ u ∈ q, u ∈ U) : q.length ≤ U.length := by
  have h1 : (q.map fun u => U.idxOf u).Nodup := nodup_map hq (fun x hx y hy he => by
    have h2 := List.idxOf_lt_length_iff.2 (h x hx)
    have h3 := List.idxOf_lt_length_iff.2 (h y hy)
    have e1 := List.getElem_idxOf h2
    have e2 := List.getElem_idxOf h3
    rw [← e1, ← e2]
    congr 1)
  have h2 := nodup_bound U.length _ h1 (fun z hz => by
    obtain ⟨x, hx, rfl⟩ := List.mem_map.1 hz
    exact List.idxOf_lt_length_iff.2 (h x hx))
  rwa [List.length_map] at h2
/-- a list without doubles over another is no longer -/
theorem nodup_sub {q U : List ByteArray} (hq : q.Nodup) (h : ∀ u ∈ q, u ∈ U) : q.length ≤ U.length := by
  have h1 : (blsW q).Nodup := by
    unfold blsW List.Nodup
    rw [List.pairwise_map]
    exact List.Pairwise.imp (fun h e => h (blW_inj e)) hq
  have h2 := nodup_subL h1 (U := blsW U) (fun u hu => by
    obtain ⟨v, hv, rfl⟩ := List.mem_map.1 hu
    exact blsW_mem.2 (h v hv))
  rwa [blsW_len, blsW_len] at h2
/-- what is asked of a list of words that is in order -/
structure LOk (l : List ByteArray) : Prop where
  lo : 1 ≤ l.length
  hi : l.length ≤ 8
  w1 : ∀ w ∈ l, 1 ≤ w.size
  w6 : ∀ w ∈ l, w.size ≤ 6
  nd : l.Nodup
theorem LOk.of {l : List ByteArray} (h : listP l) : LOk l := by
  refine ⟨h.1.1, h.1.2, fun w hw => ?_, fun w hw => ?_, ?_⟩
  · obtain ⟨i, hi, rfl⟩ := mem_nthS hw; exact (h.2 i hi).2.1.1
  · obtain ⟨i, hi, rfl⟩ := mem_nthS hw; exact (h.2 i hi).2.1.2
  · refine List.pairwise_iff_getElem.2 (fun i k hi hk hik he => ?_)
    have h1 := (h.2 k hk).2.2
    rw [nthS_lt hk, ← he] at h1
    exact h1 (List.mem_iff_getElem.2 ⟨i, by rw [List.length_take]; omega, by rw [List.getElem_take]⟩)
theorem LOk.sz {l : List ByteArray} (h : LOk l) {i : Nat} (hi : i < l.length) : (nthS l i).size ≤ 6 := h.w6 _ (nthS_mem hi)
theorem LOk.set {l q : List ByteArray} (h : LOk l) (hq : q.Nodup) (hs : ∀ u ∈ q, sufP l u) : q.length ≤ 41 :=
  Nat.le_trans (nodup_sub hq (fun u hu => sufP_uni (hs u hu))) (uniW_len h.hi h.w6)
end Go.Proofs.Ytmgdglghjlggnaa
namespace Go.Proofs.Ytmgdglghjlggnaa
open Go.RowKit
set_option linter.unusedVariables false
/-- what a call hands back: a slice that holds the sorted set of the words that have a property -/
def RetIn (P : ByteArray → Prop) (ok : Nat → Prop) (w : World) (e : Ending) (w' : World) : Prop := ∃ q ad cap, e = .returned (.slice (some ad) q.length cap) ∧ SortedS q ∧ (∀ u, u ∈ q ↔ P u) ∧ StrsIn w' (some ad) q ∧ q.length ≤ cap ∧ Below w.heap.size w w' ∧ ok ad.block
/-- a set that is being collected, pair by pair -/
def StSet (n : Nat) (R : Nat → Nat → ByteArray → Prop) (w : World) (j k : Nat) (v : Value) (wr : World) : Prop :=
  ∃ q ad cap, v = .slice (some ad) q.length cap ∧ SortedS q ∧ (∀ u, u ∈ q ↔ PairTo n R j k u) ∧ StrsIn wr (some ad) q ∧ q.length ≤ cap ∧ Below w.heap.size w wr ∧ w.heap.size ≤ ad.block
theorem StSet.start (n : Nat) (R : Nat → Nat → ByteArray → Prop) (w : World) : StSet n R w 0 0 (.slice (some ⟨w.heap.size, 0, none⟩) 0 0) (w.alloc (.cells #[] 9)) :=
  ⟨[], _, _, rfl, SortedS.nil, fun u => ⟨fun h => (by cases h), fun h => absurd h PairTo.zero⟩, .inl rfl, Nat.le_refl _, (Below.refl _ _).alloc (Nat.le_refl _) _, Nat.le_refl _⟩
theorem StSet.row {n : Nat} {R : Nat → Nat → ByteArray → Prop} {w wr : World} {j : Nat} {v : Value} (h : StSet n R w j n v wr) : StSet n R w (j + 1) 0 v wr := by
  obtain ⟨q, ad, cap, hv, hs, hm, hr⟩ := h
  exact ⟨q, ad, cap, hv, hs, fun u => (hm u).trans (PairTo.row u), hr⟩
theorem StSet.skip {n : Nat} {R : Nat → Nat → ByteArray → Prop} {w wr wr' : World} {j k : Nat} {v : Value} (h : StSet n R w j k v wr) (hk : k < n) (hR : ∀ u, ¬ R j k u) (hb : Below wr.heap.size wr wr') : StSet n R w j (k + 1) v wr' := by
  obtain ⟨q, ad, cap, hv, hs, hm, hi, hc, hb0, hk0⟩ := h
  exact ⟨q, ad, cap, hv, hs, fun u => by rw [hm u, PairTo.next hk]; exact ⟨.inl, fun h => h.elim id (fun h => absurd h (hR u))⟩, hi.later hb, hc, Below.now hb0 hb, hk0⟩
/-- the set as a call hands it back -/
theorem StSet.ret {n : Nat} {R : Nat → Nat → ByteArray → Prop} {w wr : World} {j : Nat} {v : Value} (h : StSet n R w j 0 v wr) {P : ByteArray → Prop} (hP : ∀ u, PairTo n R j 0 u ↔ P u) : RetIn P (fun b => w.heap.size ≤ b) w (.returned v) wr := by
  obtain ⟨q, ad, cap, rfl, hs, hm, hi, hc, hb0⟩ := h
  exact ⟨q, ad, cap, rfl, hs, fun u => (hm u).trans (hP u), hi, hc, hb0⟩
end Go.Proofs.Ytmgdglghjlggnaa
namespace Go.Proofs.Ytmgdglghjlggnaa
open Go.RowKit
set_option linter.unusedVariables false
/-- a word has been put in -/
theorem StSet.put {n : Nat} {R : Nat → Nat → ByteArray → Prop} {w w1 w2 : World} {j k : Nat} {q : List ByteArray} {x : ByteArray} {v : Value} {ok : Nat → Prop} (hm : ∀ u, u ∈ q ↔ PairTo n R j k u) (hk : k < n) (hR : ∀ u, R j k u ↔ u = x) (hb : Below w.heap.size w w1)
    (hok : ∀ b, ok b → w.heap.size ≤ b) (h : RetIn (fun u => u ∈ q ∨ u = x) ok w1 (.returned v) w2) : StSet n R w j (k + 1) v w2 := by
  obtain ⟨q2, ad2, oc2, hv, hs2, hm2, hi2, hc2, hb2, hk2⟩ := h
  cases hv
  refine ⟨q2, ad2, oc2, rfl, hs2, fun u => ?_, hi2, hc2, Below.now hb hb2, hok _ hk2⟩
  refine (hm2 u).trans ?_
  show (u ∈ q ∨ u = x) ↔ _
  rw [PairTo.next hk, hm u, hR u]
end Go.Proofs.Ytmgdglghjlggnaa
namespace Go.Proofs.Ytmgdglghjlggnaa
open Go.RowKit
set_option linter.unusedVariables false
/-- the first set -/
def setF (l S : List ByteArray) : Prop := SortedS S ∧ ∀ u, u ∈ S ↔ firstM l u
/-- the set behind X -/
def setN (l X S : List ByteArray) : Prop := SortedS S ∧ ∀ u, u ∈ S ↔ nextM l X u
theorem setF_uniq {l S S' : List ByteArray} (h : setF l S) (h' : setF l S') : S = S' := h.1.ext h'.1 (fun u => (h.2 u).trans (h'.2 u).symm)
theorem setN_uniq {l X S S' : List ByteArray} (h : setN l X S) (h' : setN l X S') : S = S' := h.1.ext h'.1 (fun u => (h.2 u).trans (h'.2 u).symm)
/-- the sets out (the last one first), each fresh -/
def FreshT (l : List ByteArray) (out : List (List ByteArray)) : Prop := freshB (setF l) (setN l) out
def ComesT (l : List ByteArray) (out : List (List ByteArray)) (S : List ByteArray) : Prop := comesB (setF l) (setN l) out S
/-- the run is over -/
def EndsT (l : List ByteArray) (out : List (List ByteArray)) (S : List ByteArray) : Prop := endsB (setF l) (setN l) out S
theorem comesT_suf {l : List ByteArray} (hok : LOk l) : ∀ {out : List (List ByteArray)} {S : List ByteArray}, FreshT l out → ComesT l out S → SortedS S ∧ ∀ u ∈ S, sufP l u
  | [], S, _, h => ⟨h.1, fun u hu => firstM_suf hok.w1 ((h.2 u).1 hu)⟩
  | X :: out, S, hf, h => by
    have hX := comesT_suf hok hf.1 h.1
    exact ⟨h.2.1, fun u hu => nextM_suf hok.w1 hX.2 ((h.2.2 u).1 hu)⟩
theorem freshT_all {l : List ByteArray} (hok : LOk l) : ∀ {out : List (List ByteArray)}, FreshT l out → out.Nodup ∧ ∀ X ∈ out, SortedS X ∧ ∀ u ∈ X, sufP l u
  | [], _ => ⟨List.nodup_nil, fun X h => by cases h⟩
  | X :: out, hf => by
    have ih := freshT_all hok hf.1
    refine ⟨List.nodup_cons.2 ⟨hf.2.2.2, ih.1⟩, fun Y hY => ?_⟩
    rcases List.mem_cons.1 hY with rfl | hY
    · exact comesT_suf hok hf.1 hf.2.1
    · exact ih.2 Y hY
theorem two41 {n : Nat} (h : n ≤ 41) : 2 ^ n ≤ 2199023255552 := Nat.le_trans (Nat.pow_le_pow_right (by omega) h) (by decide)
theorem freshT_len {l : List ByteArray} (hok : LOk l) {out : List (List ByteArray)} (hf : FreshT l out) : out.length ≤ 2199023255552 := by
  obtain ⟨h1, h2⟩ := freshT_all hok hf
  have h3 := sets_bound (U := uniW l) h1 (fun X hX u hu => sufP_uni ((h2 X hX).2 u hu)) (fun X hX Y hY he => (h2 X hX).1.ext (h2 Y hY).1 he)
  exact Nat.le_trans h3 (two41 (uniW_len hok.hi hok.w6))
theorem endsT_uniq {l : List ByteArray} {out out' : List (List ByteArray)} {S S' : List ByteArray} (h : FreshT l out) (h' : FreshT l out') (he : EndsT l out S) (he' : EndsT l out' S') : out = out' :=
  ends_uniq (F := setF l) (N := setN l) (fun _ _ a b => setF_uniq a b) (fun _ _ _ a b => setN_uniq a b) h h' he he'
/-- the list at a place -/
def nthL (L : List (List ByteArray)) (i : Nat) : List ByteArray := L.getD i []
theorem nthL_lt {L : List (List ByteArray)} {i : Nat} (h : i < L.length) : nthL L i = L[i] := by simp [nthL, List.getD_eq_getElem?_getD, h]
theorem mem_nthL {L : List (List ByteArray)} {X : List ByteArray} (h : X ∈ L) : ∃ i, i < L.length ∧ nthL L i = X := by
  obtain ⟨i, hi, he⟩ := List.getElem_of_mem h
  exact ⟨i, hi, by rw [nthL_lt hi, he]⟩
theorem nthL_mem {L : List (List ByteArray)} {i : Nat} (h : i < L.length) : nthL L i ∈ L := by rw [nthL_lt h]; exact List.getElem_mem h
/-- cells that hold slices of strings -/
def SetsIn (w : World) (ok : Nat → Prop) (vs : List Value) (L : List (List ByteArray)) : Prop := vs.length = L.length ∧ ∀ i, i < L.length → ∃ ad cap, vs[i]? = some (.slice (some ad) (nthL L i).length cap) ∧ StrsIn w (some ad) (nthL L i) ∧ (nthL L i).length ≤ cap ∧ ok ad.block
theorem SetsIn.later {w w' : World} {ok : Nat → Prop} {vs : List Value} {L : List (List ByteArray)} (h : SetsIn w ok vs L) (hb : Below w.heap.size w w') : SetsIn w' ok vs L :=
  ⟨h.1, fun i hi => by obtain ⟨ad, cap, h1, h2, h3⟩ := h.2 i hi; exact ⟨ad, cap, h1, h2.later hb, h3⟩⟩
theorem StrsIn.grownR {w w' : World} {r : Option Nat} {ad : Addr} {l : List ByteArray} (h : StrsIn w (some ad) l) (hg : w.grownBy w' r) (hne : some ad.block ≠ r) : StrsIn w' (some ad) l := by
  rcases h with h | ⟨b, off, ha, hc⟩
  · exact .inl h
  · refine .inr ⟨b, off, ha, fun i hi => ?_⟩
    have h1 := hc i hi
    obtain rfl := Option.some.inj ha
    have h2 := World.block_lt_of_cell? w _ h1
    rw [World.cell?_of_block (hg.block b h2 hne)]
    exact h1
theorem SetsIn.grown {w w' : World} {ok ok' : Nat → Prop} {r : Option Nat} {vs : List Value} {L : List (List ByteArray)} (h : SetsIn w ok vs L) (hg : w.grownBy w' r) (hne : ∀ b, ok b → some b ≠ r ∧ ok' b) : SetsIn w' ok' vs L :=
  ⟨h.1, fun i hi => by obtain ⟨ad, cap, h1, h2, h3, h4⟩ := h.2 i hi; exact ⟨ad, cap, h1, h2.grownR hg (hne _ h4).1, h3, (hne _ h4).2⟩⟩
theorem SetsIn.weak {w : World} {ok ok' : Nat → Prop} {vs : List Value} {L : List (List ByteArray)} (h : SetsIn w ok vs L) (hne : ∀ b, ok b → ok' b) : SetsIn w ok' vs L :=
  ⟨h.1, fun i hi => by obtain ⟨ad, cap, h1, h2, h3, h4⟩ := h.2 i hi; exact ⟨ad, cap, h1, h2, h3, hne _ h4⟩⟩
theorem SetsIn.nil (w : World) (ok : Nat → Prop) : SetsIn w ok [] [] := ⟨rfl, fun i h => absurd h (Nat.not_lt_zero _)⟩
theorem SetsIn.push {w : World} {ok : Nat → Prop} {vs : List Value} {L : List (List ByteArray)} (h : SetsIn w ok vs L) {X : List ByteArray} {ad : Addr} {cap : Nat} (hX : StrsIn w (some ad) X) (hc : X.length ≤ cap) (hk : ok ad.block) : SetsIn w ok (vs ++ [.slice (some ad) X.length cap]) (L ++ [X]) := by
  refine ⟨by simp [h.1], fun i hi => ?_⟩
  by_cases e : i < L.length
  · obtain ⟨ad', cap', h1, h2, h3⟩ := h.2 i e
    have e1 : nthL (L ++ [X]) i = nthL L i := by rw [nthL_lt hi, nthL_lt e, List.getElem_append_left e]
    rw [e1]
    exact ⟨ad', cap', by rw [List.getElem?_append_left (by rw [h.1]; exact e)]; exact h1, h2, h3⟩
  · have ei : i = L.length := by rw [List.length_append, List.length_singleton] at hi; omega
    subst ei
    have e1 : nthL (L ++ [X]) L.length = X := by rw [nthL_lt hi]; simp
    rw [e1]
    exact ⟨ad, cap, by rw [← h.1]; simp, hX, hc, hk⟩
theorem SetsIn.one {w : World} {ok : Nat → Prop} {vs : List Value} {L : List (List ByteArray)} (h : SetsIn w ok vs L) : ∀ u ∈ vs, u.oneCell' = true := fun u hu => by
  obtain ⟨i, hi, rfl⟩ := List.getElem_of_mem hu
  obtain ⟨ad, cap, h1, _⟩ := h.2 i (by rw [← h.1]; exact hi)
  rw [List.getElem?_eq_getElem hi] at h1
  rw [Option.some.inj h1]; rfl
/-- what TailsOf hands back -/
def RetTails (l : List ByteArray) (w : World) (e : Ending) (w' : World) : Prop :=
  (¬ listP l ∧ e = .returned (.slice none 0 0) ∧ Below w.heap.size w w') ∨
  (listP l ∧ ∃ out S vs a cap, FreshT l out ∧ EndsT l out S ∧ SetsIn w' (fun _ => True) vs out.reverse ∧ e = .returned (.slice a out.length cap) ∧ w'.ownsRow w.heap.size 23 1 (.slice a out.length cap) out.length vs ∧ Below w.heap.size w w')
/-- no word has two readings: the words of no set are empty -/
def codeP (l : List ByteArray) : Prop := listP l ∧ ∃ out S, FreshT l out ∧ EndsT l out S ∧ ∀ X ∈ out, ¬ (⟨#[]⟩ : ByteArray) ∈ X
theorem codeP_of {l : List ByteArray} {out : List (List ByteArray)} {S : List ByteArray} (hl : listP l) (h1 : FreshT l out) (h2 : EndsT l out S) : codeP l ↔ ∀ X ∈ out, ¬ (⟨#[]⟩ : ByteArray) ∈ X := by
  constructor
  · rintro ⟨_, out', S', h3, h4, h5⟩
    have := endsT_uniq h1 h3 h2 h4
    subst this
    exact h5
  · intro h; exact ⟨hl, out, S, h1, h2, h⟩
theorem Try.infoStrs : (Try.prog.info? 23).map (fun i => (i.zero, i.size, i.bytes)) = some (some (.slice none 0 0), 1, 24) := by kernel_rfl
/-- the length of a slice's value -/
def lenOf : Value → Nat
  | .slice _ n _ => n
  | _ => 0
end Go.Proofs.Ytmgdglghjlggnaa
namespace Go.Proofs.Ytmgdglghjlggnaa
open Go.RowKit
set_option linter.unusedVariables false
theorem nodup_code {l : List ByteArray} {out : List (List ByteArray)} {S : List ByteArray} (hf : FreshT l out) (hc : ComesT l out S) (h0 : S ≠ []) (hn : ∀ i, i < out.length → nthL out.reverse i ≠ S) : FreshT l (S :: out) :=
  ⟨hf, hc, h0, fun hm => by
    obtain ⟨i, hi, he⟩ := mem_nthL (List.mem_reverse.2 hm)
    exact hn i (by simpa using hi) he⟩
end Go.Proofs.Ytmgdglghjlggnaa
