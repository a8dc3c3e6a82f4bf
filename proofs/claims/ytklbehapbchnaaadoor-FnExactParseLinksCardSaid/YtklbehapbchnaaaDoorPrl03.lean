/-
  FormatWords, of the program and of the reference.
-/
import Derived.Test.YtklbehapbchnaaaDoorPrl01
import Derived.Test.YtklbehapbchnaaaDoorPrl02
import Derived.Deep.AppendLies
import Derived.Lib.SlicesCompact
import Derived.Sort.Statements
import Derived.Sort.Walk0
import Derived.Maps.AppendAt
import Derived.Laws.OwnMore
namespace Go.Proofs.YtklbehapbchnaaaDoor
open Go.RowKit
set_option linter.unusedVariables false
/-- a slice of strings -/
def StrsIn (w : World) (a : Option Addr) (l : List ByteArray) : Prop := CellsIn w a (l.map Value.string)
theorem StrsIn.later {w w' : World} {a : Option Addr} {l : List ByteArray} (h : StrsIn w a l) (hb : Below w.heap.size w w') : StrsIn w' a l := CellsIn.later h hb
/-- the string at a place -/
def nthS (l : List ByteArray) (i : Nat) : ByteArray := l.getD i ⟨#[]⟩
theorem nthS_lt {l : List ByteArray} {i : Nat} (h : i < l.length) : nthS l i = l[i] := by simp [nthS, List.getD_eq_getElem?_getD, h]
theorem StrsIn.cell {w : World} {a : Option Addr} {l : List ByteArray} (h : StrsIn w a l) {i : Nat} (hi : i < l.length) :
    ∃ b off, a = some ⟨b, off, none⟩ ∧ b < w.heap.size ∧ ∀ j, j < l.length → w.cell? ⟨b, off + j, none⟩ = some (.string (nthS l j)) := by
  rcases h with h | ⟨b, off, ha, hc⟩
  · simp at h; simp [h] at hi
  · have key : ∀ j, j < l.length → w.cell? ⟨b, off + j, none⟩ = some (.string (nthS l j)) := fun j hj => by
      have := hc j (by simpa using hj)
      rw [nthS_lt hj]
      simpa using this
    exact ⟨b, off, ha, World.block_lt_of_cell? w _ (key i hi), key⟩
/-- the first j strings, joined -/
def joinTo (l : List ByteArray) (sep : ByteArray) : Nat → ByteArray
  | 0 => ⟨#[]⟩
  | j + 1 => if j = 0 then nthS l 0 else joinTo l sep j ++ sep ++ nthS l j
def joinF (l : List ByteArray) (sep : ByteArray) : ByteArray := joinTo l sep l.length
theorem joinTo_one (l : List ByteArray) (sep : ByteArray) : joinTo l sep 1 = nthS l 0 := rfl
theorem joinTo_succ (l : List ByteArray) (sep : ByteArray) {j : Nat} (h : 0 < j) : joinTo l sep (j + 1) = joinTo l sep j ++ sep ++ nthS l j := by
  simp only [joinTo, if_neg (show ¬ j = 0 by omega)]
/-- the sizes of the first j -/
def sumTo (l : List ByteArray) : Nat → Nat
  | 0 => 0
  | j + 1 => sumTo l j + (nthS l j).size
theorem joinTo_size (l : List ByteArray) (sep : ByteArray) : ∀ j, (joinTo l sep (j + 1)).size = sumTo l (j + 1) + sep.size * j
  | 0 => by simp [joinTo, sumTo]
  | j + 1 => by
    rw [joinTo_succ l sep (by omega), ByteArray.size_append, ByteArray.size_append, joinTo_size l sep j, sumTo, Nat.mul_add, sumTo]
    simp only [sumTo]
    omega
theorem joinTo_mono (l : List ByteArray) (sep : ByteArray) {i j : Nat} (h : i ≤ j) : (joinTo l sep i).size ≤ (joinTo l sep j).size := by
  induction h with
  | refl => exact Nat.le_refl _
  | step h ih =>
    rename_i m
    refine Nat.le_trans ih ?_
    cases m with
    | zero => exact Nat.zero_le _
    | succ m => rw [joinTo_succ l sep (j := m + 1) (by omega), ByteArray.size_append, ByteArray.size_append]; omega
theorem sumTo_mono (l : List ByteArray) {i j : Nat} (h : i ≤ j) : sumTo l i ≤ sumTo l j := by
  induction h with
  | refl => exact Nat.le_refl _
  | step h ih => exact Nat.le_trans ih (by simp [sumTo])
theorem ret_str {a b : ByteArray} (h : a = b) : Ending.returned (.string a) = .returned (.string b) := by rw [h]
theorem cells_append (a b : ByteArray) : Lib.byteCells a.data.toList ++ Lib.strCells b = Lib.byteCells (a ++ b).data.toList := by
  rw [Lib.strCells_eq, ← Lib.byteCells_append]; simp
theorem alloc_at (w : World) (o : Obj) : (w.alloc o).heap[w.heap.size]? = some o := by unfold World.alloc; simp
set_option maxHeartbeats 1000000 in
theorem join_any (l : List ByteArray) (sep : ByteArray) (a : Option Addr) (cap : Nat) (w : World) (hl : StrsIn w a l) (hs0 : 0 < sep.size) (hs1 : sep.size ≤ 1000) (hlen : l.length ≤ 2 ^ 40) (hcap : l.length ≤ cap ∧ cap ≤ maxLen)
    (hsz : (joinF l sep).size ≤ 2 ^ 46) :
    Calls Tryd.prog 52 #[.slice a l.length cap, .string sep] w fun e w' => e = .returned (.string (joinF l sep)) ∧ Below w.heap.size w w' := by
  rcases Nat.lt_or_ge l.length 2 with h2 | h2
  · rcases Nat.lt_or_ge l.length 1 with h1 | h1
    · have h0 : l.length = 0 := by omega
      have F : Hid (joinF l sep = ⟨#[]⟩) := by unfold joinF; rw [h0]; exact Lib.hid rfl
      rw [h0]
      clear hl
      go_enter Tryd.func52, Tryd.ntmps52
      go_wp2_with fail
      go_ret
      exact ⟨ret_str F.out.symm, Below.refl _ _⟩
    · have h0 : l.length = 1 := by omega
      have F : Hid (joinF l sep = nthS l 0) := by unfold joinF; rw [h0]; exact Lib.hid rfl
      obtain ⟨b, off, rfl, hb, hc⟩ := hl.cell (i := 0) (by omega)
      have hc0 := hc 0 (by omega)
      rw [Nat.add_zero] at hc0
      clear hc hl
      rw [h0]
      go_enter Tryd.func52, Tryd.ntmps52
      go_wp2_with fail
      go_ret
      exact ⟨ret_str F.out.symm, Below.refl _ _⟩
  · obtain ⟨b, off, rfl, hb, hc⟩ := hl.cell (i := 0) (by omega)
    have HC := Lib.hid hc
    have hc0 := hc 0 (by omega)
    rw [Nat.add_zero] at hc0
    have HSZ := Lib.hid hsz
    obtain ⟨n, hn⟩ : ∃ n, l.length = n + 2 := ⟨l.length - 2, by omega⟩
    have HN := Lib.hid hn
    have hq : (sep.size : Int) < 9223372036854775807 / ((n : Int) + 2 - 1) := by
      have : (1001 : Int) ≤ 9223372036854775807 / ((n : Int) + 2 - 1) := Int.le_ediv_of_mul_le (by omega) (by omega)
      omega
    have HS1 := joinTo_size l sep (n + 1)
    have hJ : (joinTo l sep (n + 2)).size ≤ 2 ^ 46 := by rw [← hn]; exact hsz
    obtain ⟨q, hqq⟩ : ∃ q, q = sep.size * (n + 1) := ⟨_, rfl⟩
    have e1 : (sep.size : Int) * ((n : Int) + 2 - 1) = (q : Int) := by rw [hqq, Int.natCast_mul]; congr 1; omega
    rw [← hqq, show n + 1 + 1 = n + 2 from rfl] at HS1
    have hS : sumTo l (n + 2) + q ≤ 2 ^ 46 := by omega
    have HJ := Lib.hid hJ
    clear hc hl hsz hqq HS1 hJ
    go_enter Tryd.func52, Tryd.ntmps52
    go_wp2_with fail
    go_loopw [5, 41] (fun s i wr => ∃ j t : Nat, j ≤ n + 2 ∧ i = .int .i64 j ∧ s = .int .i64 t ∧ t = q + sumTo l j ∧ wr = w) (fun _ i _ => n + 2 - (intOf i).toNat)
    case atStart => exact ⟨0, q, Nat.zero_le _, rfl, rfl, rfl, rfl⟩
    case round =>
      obtain ⟨j, t, hj, rfl, rfl, ht, rfl⟩ := hrel
      have hm := sumTo_mono l hj
      by_cases hlt : j < n + 2
      · have hc1 := HC.out j (by omega)
        have hm2 := sumTo_mono l (show j + 1 ≤ n + 2 from hlt)
        have hs : sumTo l (j + 1) = sumTo l j + (nthS l j).size := rfl
        go_wp2_with fail
        go_roundw
        case rel => exact ⟨j + 1, t + (nthS l j).size, by omega, by go_num, by go_num, by omega, trivial⟩
        case measure => simp [intOf]; omega
      · have hle : t ≤ 2 ^ 46 := by omega
        clear ht hm
        go_wp2_with fail
        obtain ⟨B, hB⟩ : ∃ B, B = wr.heap.size := ⟨_, rfl⟩
        have hG := Tryd.Builder_Grow_fresh B B t (wr.alloc (.cells #[.pointer none, .slice none 0 0] 97)) (Nat.le_refl _) (by rw [hB]; exact alloc_at _ _) (by rw [hB]; simp) (by omega)
        rw [← hB]
        refine hG.mono ?_
        rintro e w2 ⟨rfl, hbt, hb2⟩
        have hbel : Below B wr w2 := ((Below.refl _ _).alloc (by omega) _).trans hb2
        have c0 : w2.cell? ⟨b, off, none⟩ = some (.string (nthS l 0)) := by rw [hbel.cell (by show b < B; omega)]; exact hc0
        have HC2 : Hid (∀ W, Below B wr W → ∀ j, j < l.length → W.cell? ⟨b, off + j, none⟩ = some (.string (nthS l j))) := Lib.hid fun W hW j hj => by rw [hW.cell (by show b < B; omega)]; exact HC.out j hj
        have HBT := Lib.hid hbt
        have HB := Lib.hid hB
        have hsB : B ≤ w2.heap.size := by rw [hB]; exact hbel.size
        clear hbt hb2 hc0 hG hB HC hb
        have hj0 := joinTo_mono l sep (show 1 ≤ n + 2 by omega)
        have hj46 := HJ.out
        rw [joinTo_one] at hj0
        go_wp2_with fail
        refine (Tryd.Builder_WriteString B B [] (nthS l 0) w2 (.inr HBT.out) (by simp; omega) hsB).mono ?_
        rintro e w3 ⟨rfl, hbt3, hb3⟩
        replace hbel := hbel.trans hb3
        rw [List.nil_append, Lib.strCells_eq, ← joinTo_one l sep] at hbt3
        replace HBT := Lib.hid hbt3
        clear hbt3 hb3 c0 hj0 hj46 hsB
        clear hj hlt hle
        go_wp2_with fail
        go_loopw [65] (fun i w4 => ∃ j : Nat, j ≤ n + 1 ∧ i = .int .i64 j ∧ Lib.BuilderAt 97 5 B B (.pointer (some ⟨B, 0, none⟩)) (Lib.byteCells (joinTo l sep (j + 1)).data.toList) w4 ∧ Below B wr w4) (fun i _ => n + 1 - (intOf i).toNat)
        case atStart => exact ⟨0, Nat.zero_le _, rfl, HBT.out, hbel⟩
        case round =>
          clear HBT hbel
          obtain ⟨j, hj, rfl, hbt, hbel⟩ := hrel
          have HBT := Lib.hid hbt
          clear hbt
          have hsB : B ≤ wr.heap.size := by have := hbel.size; rw [HB.out]; exact this
          by_cases hlt : j < n + 1
          · have c1 := HC2.out _ hbel (j + 1) (by omega)
            rw [show off + (j + 1) = off + 1 + j by omega] at c1
            have hsz1 := joinTo_succ l sep (j := j + 1) (by omega)
            have hsz2 := joinTo_mono l sep (show j + 1 + 1 ≤ n + 2 by omega)
            have hj46 := HJ.out
            have hsz3 : (joinTo l sep (j + 1 + 1)).size = (joinTo l sep (j + 1)).size + sep.size + (nthS l (j + 1)).size := by rw [hsz1, ByteArray.size_append, ByteArray.size_append]
            have HE := Lib.hid hsz1
            have hbc := Lib.byteCells_length (joinTo l sep (j + 1)).data.toList
            have hbc2 := Lib.byteCells_length (joinTo l sep (j + 1) ++ sep).data.toList
            simp only [Array.length_toList, ByteArray.size_data, ByteArray.size_append] at hbc hbc2
            have hl1 : (Lib.byteCells (joinTo l sep (j + 1)).data.toList).length + sep.size ≤ 140737488355328 := by omega
            have hl2 : (Lib.byteCells (joinTo l sep (j + 1) ++ sep).data.toList).length + (nthS l (j + 1)).size ≤ 140737488355328 := by omega
            have HL1 := Lib.hid hl1
            have HL2 := Lib.hid hl2
            clear hsz1 hsz2 hj46 hsz3 hbc hbc2 hl1 hl2
            go_wp2_with fail
            refine (Tryd.Builder_WriteString B B _ sep _ (.inr HBT.out) HL1.out hsB).mono ?_
            rintro e w5 ⟨rfl, hbt5, hb5⟩
            replace hbel := hbel.trans hb5
            replace hsB : B ≤ w5.heap.size := by have := hbel.size; rw [HB.out]; exact this
            replace c1 : w5.cell? ⟨b, off + 1 + j, none⟩ = some (.string (nthS l (j + 1))) := by rw [show off + 1 + j = off + (j + 1) by omega]; exact HC2.out _ hbel (j + 1) (by omega)
            rw [cells_append] at hbt5
            replace HBT := Lib.hid hbt5
            clear hbt5 hb5
            go_wp2_with fail
            refine (Tryd.Builder_WriteString B B _ (nthS l (j + 1)) _ (.inr HBT.out) HL2.out hsB).mono ?_
            rintro e w6 ⟨rfl, hbt6, hb6⟩
            replace hbel := hbel.trans hb6
            rw [cells_append] at hbt6
            replace HBT := Lib.hid hbt6
            clear hbt6 hb6 c1 hsB
            go_wp2_with fail
            go_roundw
            case rel => exact ⟨j + 1, by omega, by go_num, by rw [HE.out]; exact HBT.out, hbel⟩
            case measure => simp [intOf]; omega
          · obtain rfl : j = n + 1 := by omega
            have F : Hid (joinF l sep = joinTo l sep (n + 1 + 1)) := by unfold joinF; rw [HN.out]; exact Lib.hid rfl
            go_wp2_with fail
            refine (Tryd.Builder_String_any B B _ _ (.inr HBT.out) hsB).mono ?_
            rintro e w5 ⟨rfl, hb5⟩
            replace hbel := hbel.trans hb5
            clear hb5
            go_wp2_with fail
            go_ret
            exact ⟨ret_str (by rw [F.out]), by rw [← HB.out]; exact hbel⟩
end Go.Proofs.YtklbehapbchnaaaDoor
namespace Go.Proofs.YtklbehapbchnaaaDoor
open Go.RowKit
set_option linter.unusedVariables false
/-- a slice of n elements (size cells each) that is being built since w -/
def Bld (T : TypeId) (size : Nat) (w wr : World) (v : Value) (n : Nat) (xs : List Value) : Prop := wr.ownsRow w.heap.size T size v n xs ∧ Below w.heap.size w wr
/-- the slice that a variable holds, whatever it is made of -/
theorem owns_form {w : World} {base : Nat} {T : TypeId} {size : Nat} {v : Value} {n : Nat} {xs : List Value} (h : w.ownsRow base T size v n xs) : ∃ a cap, v = .slice a n cap := by
  rcases h.2 with ⟨hv, h0⟩ | ⟨g, cap, cur, hv, _⟩
  · exact ⟨none, 0, by rw [hv, h0]⟩
  · exact ⟨_, _, hv⟩
theorem owns_block {w : World} {base : Nat} {T : TypeId} {size : Nat} {v : Value} {n : Nat} {xs : List Value} (h : w.ownsRow base T size v n xs) : ∀ k, v.ownBlock = some k → base ≤ k := fun k hk => (h.lt k hk).1
theorem Bld.ret {T : TypeId} {size : Nat} {w wr : World} {v : Value} {n : Nat} {xs : List Value} (h : Bld T size w wr v n xs) : RetSl T size n xs w (.returned v) wr := by
  obtain ⟨a, cap, rfl⟩ := owns_form h.1
  exact ⟨a, cap, rfl, h.1, h.2⟩
theorem Bld.later {T : TypeId} {size : Nat} {w wr wr' : World} {v : Value} {n : Nat} {xs : List Value} (h : Bld T size w wr v n xs) (hb : Below wr.heap.size wr wr') : Bld T size w wr' v n xs := ⟨owns_later h.1 hb, Below.now h.2 hb⟩
theorem Bld.empty (T : TypeId) (size : Nat) (w : World) : Bld T size w (w.alloc (.cells #[] T)) (.slice (some ⟨w.heap.size, 0, none⟩) 0 0) 0 [] :=
  ⟨World.ownsRow_made w #[] 0 (Nat.le_refl _) (by unfold maxLen; omega) (by simp), (Below.refl _ _).alloc (Nat.le_refl _) _⟩
theorem Bld.nil (T : TypeId) (size : Nat) {w wr : World} (h : Below w.heap.size w wr) : Bld T size w wr (.slice none 0 0) 0 [] := ⟨World.ownsRow_nil _ _ _ _, h⟩
theorem Bld.since {T : TypeId} {size : Nat} {w w0 wr : World} {v : Value} {n : Nat} {xs : List Value} (h : Bld T size w wr v n xs) (hb : Below w0.heap.size w0 w) : Bld T size w0 wr v n xs :=
  ⟨owns_mono h.1 hb.size, hb.trans (h.2.mono hb.size)⟩
section
variable {P : Program}
theorem wpList_app1 {ops : Array Oper} {rest : List Oper} {o : Oper} {a : Act} {Q : Exit → Act → World → Prop} {T tsl : TypeId} {z : Value} {size bytes : Nat} (hg : o.guard = none) (s x : Operand)
    (ho : o.op = .call { callee := .builtin .append, args := #[s, x], argTypes := #[tsl, tsl] }) (ht : P.underlying tsl = some (.slice T)) (hinfo : (P.info? T).map (fun i => (i.zero, i.size, i.bytes)) = some (some z, size, bytes))
    (hzs : z.cells.size = size) (hpos : 0 < size) {w wr : World} {v : Value} {n : Nat} {xs news : List Value} (hs : a.eval s = v) (hb : Bld T size w wr v n xs) (hx : a.eval x = .slice (some ⟨wr.heap.size, 0, none⟩) 1 1)
    (hn : news.length = size) (h1 : ∀ u ∈ news, u.oneCell' = true) (h63 : n + 1 ≤ maxLen) (hbytes : (n + 1) * bytes ≤ 140737488355328)
    (hK : ∀ v' w', Bld T size w w' v' (n + 1) (xs ++ news) → wpList P ops Q rest (a.put o.dst v') w') : wpList P ops Q (o :: rest) a (wr.alloc (.cells news.toArray T)) := by
  obtain ⟨i0, hi, hz0, hz1, hz2⟩ := info_parts hinfo
  refine wpList_append_own _ hg s x tsl ho w.heap.size T i0 z size bytes ht hi hz0 hz1 hz2 hzs hpos v n xs hs (hb.1.alloc _) ⟨wr.heap.size, 0, none⟩ 1 1 news hx (by omega) ?_ h1 h63 hbytes ?_ ?_
  · intro j u hu
    have hadd : (⟨wr.heap.size, 0, none⟩ : Addr).add j = ⟨wr.heap.size, j, none⟩ := by unfold Addr.add; split <;> simp_all
    rw [hadd, World.cell?_alloc_new]
    simpa using hu
  · have := hb.2.size
    simp; omega
  · intro v' w' hown hgr _
    refine hK v' w' ⟨hown, ?_⟩
    have h2 : Below w.heap.size w (wr.alloc (.cells news.toArray T)) := hb.2.alloc hb.2.size _
    exact h2.grown hgr h2.size (owns_block hb.1)
end
end Go.Proofs.YtklbehapbchnaaaDoor
namespace Go.Proofs.YtklbehapbchnaaaDoor
open Go.RowKit
set_option linter.unusedVariables false
/-- a row of n elements of k cells that is being filled; c cells are done -/
def FillK (w wr : World) (T : TypeId) (k g n : Nat) (tgt : List Value) (c : Nat) : Prop :=
  ∃ xs, wr.ownsRow g T k (.slice (some ⟨g, 0, none⟩) n n) n xs ∧ xs.take c = tgt.take c ∧ Below w.heap.size w wr ∧ w.heap.size ≤ g ∧ tgt.length = n * k
theorem FillK.start (w : World) (T : TypeId) (cs : Array Value) (k n : Nat) (tgt : List Value) (hs : cs.size = n * k) (hn : n ≤ maxLen) (hl : tgt.length = n * k) : FillK w (w.alloc (.cells cs T)) T k w.heap.size n tgt 0 :=
  ⟨cs.toList, World.ownsRow_lit w cs n (Nat.le_refl _) hn hs, by simp, (Below.refl _ _).alloc (Nat.le_refl _) _, Nat.le_refl _, hl⟩
theorem FillK.cell {w wr : World} {T : TypeId} {k g n : Nat} {tgt : List Value} {c : Nat} (h : FillK w wr T k g n tgt c) {i : Nat} (hi : i < n * k) : ∃ v, wr.cell? ⟨g, i, none⟩ = some v := by
  obtain ⟨xs, ho, ht, hb, hg, hl⟩ := h
  have := ho.cellAt i hi
  have h1 := ho.1
  exact ⟨xs[i]'(by omega), by rw [this, List.getElem?_eq_getElem]⟩
theorem FillK.frozen {w wr : World} {T : TypeId} {k g n : Nat} {tgt : List Value} {c : Nat} (h : FillK w wr T k g n tgt c) (i : Nat) : wr.frozen? ⟨g, i, none⟩ = false := by
  obtain ⟨xs, ho, ht, hb, hg, hl⟩ := h
  exact ho.frozenAt i
theorem FillK.below {w wr : World} {T : TypeId} {k g n : Nat} {tgt : List Value} {c : Nat} (h : FillK w wr T k g n tgt c) : Below w.heap.size w wr := by
  obtain ⟨xs, ho, ht, hb, hg, hl⟩ := h
  exact hb
theorem FillK.later {w wr wr' : World} {T : TypeId} {k g n : Nat} {tgt : List Value} {c : Nat} (h : FillK w wr T k g n tgt c) (hb' : Below wr.heap.size wr wr') : FillK w wr' T k g n tgt c := by
  obtain ⟨xs, ho, ht, hb, hg, hl⟩ := h
  exact ⟨xs, owns_later ho hb', ht, Below.now hb hb', hg, hl⟩
theorem FillK.lt {w wr : World} {T : TypeId} {k g n : Nat} {tgt : List Value} {c : Nat} (h : FillK w wr T k g n tgt c) : g < wr.heap.size := by
  obtain ⟨xs, ho, ht, hb, hg, hl⟩ := h
  exact (ho.lt g rfl).2
theorem FillK.store {w wr : World} {T : TypeId} {k g n : Nat} {tgt : List Value} {c : Nat} (h : FillK w wr T k g n tgt c) (hc : c < n * k) {u : Value} (hu : tgt[c]? = some u) : FillK w (wr.setCell ⟨g, c, none⟩ u) T k g n tgt (c + 1) := by
  obtain ⟨xs, ho, ht, hb, hg, hl⟩ := h
  have h1 := ho.1
  have hu' : tgt[c]'(by omega) = u := by rw [List.getElem?_eq_getElem (by omega)] at hu; simpa using hu
  refine ⟨xs.set c u, (ho.stored c u).1, ?_, hb.setCell hg u, hg, hl⟩
  rw [← hu']
  exact fill_step (by omega) ht (by omega)
theorem FillK.done {w wr : World} {T : TypeId} {k g n : Nat} {tgt : List Value} {c : Nat} (h : FillK w wr T k g n tgt c) (hc : ¬ c < n * k) : RetSl T k n tgt w (.returned (.slice (some ⟨g, 0, none⟩) n n)) wr := by
  obtain ⟨xs, ho, ht, hb, hg, hl⟩ := h
  have h1 := ho.1
  have : xs = tgt := fill_done (by omega) ht (by omega)
  subst this
  exact ⟨_, _, rfl, owns_mono ho hg, hb⟩
section
variable {P : Program}
/-- the same, and what else there was is as it was -/
theorem step_app1g {ops : Array Oper} {o : Oper} {a : Act} {K : Act → World → Prop} {Q : Exit → Act → World → Prop} {E : Prop} {T tsl : TypeId} {z : Value} {size bytes : Nat} (hg : o.guard = none) (s x : Operand)
    (ho : o.op = .call { callee := .builtin .append, args := #[s, x], argTypes := #[tsl, tsl] }) (ht : P.underlying tsl = some (.slice T)) (hinfo : (P.info? T).map (fun i => (i.zero, i.size, i.bytes)) = some (some z, size, bytes))
    (hzs : z.cells.size = size) (hpos : 0 < size) {w wr : World} {v : Value} {n : Nat} {xs news : List Value} (hs : a.eval s = v) (hb : Bld T size w wr v n xs) (hx : a.eval x = .slice (some ⟨wr.heap.size, 0, none⟩) 1 1)
    (hn : news.length = size) (h1 : ∀ u ∈ news, u.oneCell' = true) (h63 : n + 1 ≤ maxLen) (hbytes : (n + 1) * bytes ≤ 140737488355328)
    (hK : ∀ v' w', Bld T size w w' v' (n + 1) (xs ++ news) → (wr.alloc (.cells news.toArray T)).grownBy w' v.ownBlock → K (a.put o.dst v') w') : if Region.wanted o (yielded ops a.tmps) = true then Oper.wp P o a (wr.alloc (.cells news.toArray T)) K Q else E := by
  obtain ⟨i0, hi, hz0, hz1, hz2⟩ := info_parts hinfo
  refine step_append_lies (w := wr.alloc (.cells news.toArray T)) hg s x tsl ho w.heap.size T i0 z size bytes ht hi hz0 hz1 hz2 hzs hpos v n xs hs (hb.1.alloc _) ⟨wr.heap.size, 0, none⟩ 1 1 news hx (by omega) ?_ h1 (by omega) h63 hbytes ?_ _ rfl ?_
  · intro j u hu
    have hadd : (⟨wr.heap.size, 0, none⟩ : Addr).add j = ⟨wr.heap.size, j, none⟩ := by unfold Addr.add; split <;> simp_all
    rw [hadd, World.cell?_alloc_new]
    simpa using hu
  · have := hb.2.size
    simp; omega
  · intro g cap w' hown hgr _ _
    refine hK _ w' ⟨hown, ?_⟩ hgr
    have h2 : Below w.heap.size w (wr.alloc (.cells news.toArray T)) := hb.2.alloc hb.2.size _
    exact h2.grown hgr h2.size (owns_block hb.1)
/-- a cell of an elder block that is not the row appended to -/
theorem far_cell {wr w' : World} {o : Obj} {v : Value} {a : Addr} {u : Value} (hgr : (wr.alloc o).grownBy w' v.ownBlock) (hc : wr.cell? a = some u) (hne : v.ownBlock ≠ some a.block) : w'.cell? a = some u := by
  have hlt := World.block_lt_of_cell? wr _ hc
  have h1 : (wr.alloc o).cell? a = some u := by rw [((Below.refl wr.heap.size wr).alloc (Nat.le_refl _) o).cell hlt]; exact hc
  unfold World.cell? at h1 ⊢
  rw [hgr.block a.block (by simp; omega) (fun e => hne e.symm)]
  exact h1
end
end Go.Proofs.YtklbehapbchnaaaDoor
namespace Go.Proofs.YtklbehapbchnaaaDoor
open Go.RowKit
set_option linter.unusedVariables false
/-- a rule: its two sides -/
abbrev RulD := ByteArray × ByteArray
/-- the cells of rules -/
def ruleCells : List RulD → List Value
  | [] => []
  | p :: l => .string p.1 :: .string p.2 :: ruleCells l
theorem ruleCells_len : ∀ l : List RulD, (ruleCells l).length = l.length * 2
  | [] => rfl
  | p :: l => by simp only [ruleCells, List.length_cons, ruleCells_len l]; omega
/-- the rule at a place -/
def nthR (l : List RulD) (j : Nat) : RulD := l.getD j (⟨#[]⟩, ⟨#[]⟩)
theorem nthR_lt {l : List RulD} {j : Nat} (h : j < l.length) : nthR l j = l[j] := by simp [nthR, List.getD_eq_getElem?_getD, h]
theorem nthR_mem {l : List RulD} {j : Nat} (h : j < l.length) : nthR l j ∈ l := by rw [nthR_lt h]; exact List.getElem_mem h
theorem mem_nthR {l : List RulD} {r : RulD} (h : r ∈ l) : ∃ i, i < l.length ∧ nthR l i = r := by
  obtain ⟨i, hi, he⟩ := List.getElem_of_mem h
  exact ⟨i, hi, by rw [nthR_lt hi, he]⟩
theorem ruleCells_at : ∀ (l : List RulD) (j : Nat), j < l.length → (ruleCells l)[j * 2]? = some (.string (nthR l j).1) ∧ (ruleCells l)[j * 2 + 1]? = some (.string (nthR l j).2)
  | [], j, h => by simp at h
  | p :: l, 0, _ => by simp [ruleCells, nthR]
  | p :: l, j + 1, h => by
    have := ruleCells_at l j (by simpa using h)
    rw [show (j + 1) * 2 = j * 2 + 2 by omega, show j * 2 + 2 + 1 = (j * 2 + 1) + 2 by omega]
    have e1 : ∀ n, (ruleCells (p :: l))[n + 2]? = (ruleCells l)[n]? := fun n => rfl
    have e2 : nthR (p :: l) (j + 1) = nthR l j := rfl
    rw [e1, e1, e2]
    exact this
/-- a slice of rules -/
def RulesIn (w : World) (a : Option Addr) (l : List RulD) : Prop := CellsIn w a (ruleCells l)
theorem RulesIn.later {w w' : World} {a : Option Addr} {l : List RulD} (h : RulesIn w a l) (hb : Below w.heap.size w w') : RulesIn w' a l := CellsIn.later h hb
theorem RulesIn.cell {w : World} {a : Option Addr} {l : List RulD} (h : RulesIn w a l) {i : Nat} (hi : i < l.length) :
    ∃ b off, a = some ⟨b, off, none⟩ ∧ b < w.heap.size ∧ ∀ j, j < l.length → w.cell? ⟨b, off + j * 2, none⟩ = some (.string (nthR l j).1) ∧ w.cell? ⟨b, off + j * 2 + 1, none⟩ = some (.string (nthR l j).2) := by
  rcases h with h | ⟨b, off, ha, hc⟩
  · have := ruleCells_len l
    rw [h, List.length_nil] at this
    omega
  · have key : ∀ j, j < l.length → w.cell? ⟨b, off + j * 2, none⟩ = some (.string (nthR l j).1) ∧ w.cell? ⟨b, off + j * 2 + 1, none⟩ = some (.string (nthR l j).2) := fun j hj => by
      obtain ⟨h1, h2⟩ := ruleCells_at l j hj
      have hlen := ruleCells_len l
      have c1 := hc (j * 2) (by omega)
      have c2 := hc (j * 2 + 1) (by omega)
      rw [List.getElem?_eq_getElem (by omega)] at h1 h2
      rw [Option.some.inj h1] at c1
      rw [Option.some.inj h2] at c2
      exact ⟨c1, by rw [← Nat.add_assoc] at c2; exact c2⟩
    exact ⟨b, off, ha, World.block_lt_of_cell? w _ (key i hi).1, key⟩
end Go.Proofs.YtklbehapbchnaaaDoor
namespace Go.Proofs.YtklbehapbchnaaaDoor
set_option linter.unusedVariables false
section
variable {α : Type} [DecidableEq α]
/-- two strictly sorted lists with the same members are one -/
theorem sorted_ext {lt : α → α → Prop} (hirr : ∀ a, ¬ lt a a) (htr : ∀ a b c, lt a b → lt b c → lt a c) : ∀ {x y : List α}, x.Pairwise lt → y.Pairwise lt → (∀ u, u ∈ x ↔ u ∈ y) → x = y
  | [], y, _, _, h => by
    cases y with
    | nil => rfl
    | cons b y => exact absurd ((h b).2 List.mem_cons_self) (by simp)
  | a :: x, [], _, _, h => absurd ((h a).1 List.mem_cons_self) (by simp)
  | a :: x, b :: y, hx, hy, h => by
    rw [List.pairwise_cons] at hx hy
    have hab : a = b := by
      rcases List.mem_cons.1 ((h a).1 List.mem_cons_self) with e | e
      · exact e
      · rcases List.mem_cons.1 ((h b).2 List.mem_cons_self) with e2 | e2
        · exact e2.symm
        · exact absurd (htr _ _ _ (hx.1 b e2) (hy.1 a e)) (hirr a)
    subst hab
    have hxy : x = y := sorted_ext hirr htr hx.2 hy.2 (fun u => by
      have hu := h u
      rw [List.mem_cons, List.mem_cons] at hu
      by_cases e : u = a
      · subst e
        exact ⟨fun m => absurd (hx.1 u m) (hirr u), fun m => absurd (hy.1 u m) (hirr u)⟩
      · constructor
        · intro m; exact (hu.1 (.inr m)).resolve_left e
        · intro m; exact (hu.2 (.inr m)).resolve_left e)
    rw [hxy]
end
theorem sorted_nodup {α : Type} {lt : α → α → Prop} (hirr : ∀ a, ¬ lt a a) : ∀ {x : List α}, x.Pairwise lt → x.Nodup
  | [], _ => List.nodup_nil
  | a :: x, h => by
    rw [List.pairwise_cons] at h
    rw [List.nodup_cons]
    exact ⟨fun m => hirr a (h.1 a m), sorted_nodup hirr h.2⟩
end Go.Proofs.YtklbehapbchnaaaDoor
namespace Go.Proofs.YtklbehapbchnaaaDoor
open Go.RowKit Go.Sort
set_option linter.unusedVariables false
/-- the order of words, at their bytes -/
def ltW (a b : List UInt8) : Bool := decide (a.length < b.length ∨ (a.length = b.length ∧ a < b))
theorem ltW_irrefl (a : List UInt8) : ltW a a = false := by
  have : ¬ a < a := List.lt_irrefl a
  simp [ltW, this]
theorem ltW_trans {a b c : List UInt8} (h : ltW a b = true) (h' : ltW b c = true) : ltW a c = true := by
  simp only [ltW, decide_eq_true_eq] at *
  rcases h with h | ⟨h, h2⟩ <;> rcases h' with h' | ⟨h', h3⟩
  · left; omega
  · left; omega
  · left; omega
  · right; exact ⟨by omega, List.lt_trans h2 h3⟩
theorem ltW_total {a b : List UInt8} (h : ltW a b = false) (h' : ltW b a = false) : a = b := by
  simp only [ltW, decide_eq_false_iff_not, not_or, not_and] at *
  have h1 : a.length = b.length := by omega
  have h2 : ¬ a < b := h.2 h1
  have h3 : ¬ b < a := h'.2 h1.symm
  exact List.le_antisymm (List.not_lt.1 h3) (List.not_lt.1 h2)
/-- strictly sorted -/
def SortedW (l : List (List UInt8)) : Prop := l.Pairwise (fun a b => ltW a b = true)
theorem SortedW.ext {x y : List (List UInt8)} (hx : SortedW x) (hy : SortedW y) (h : ∀ u, u ∈ x ↔ u ∈ y) : x = y :=
  sorted_ext (lt := fun a b => ltW a b = true) (fun a h => by rw [ltW_irrefl] at h; cases h) (fun a b c => ltW_trans) hx hy h
theorem SortedW.nodup {x : List (List UInt8)} (hx : SortedW x) : x.Nodup := sorted_nodup (lt := fun a b => ltW a b = true) (fun a h => by rw [ltW_irrefl] at h; cases h) hx
/-- weakly sorted: a later one is not less -/
def WeakW (l : List (List UInt8)) : Prop := l.Pairwise (fun a b => ltW b a = false)
theorem WeakW.at {zs : List (List UInt8)} (h : WeakW zs) {i j : Nat} (hij : i ≤ j) (hj : j < zs.length) : ltW zs[j] (zs[i]'(by omega)) = false := by
  rcases Nat.lt_or_ge i j with hlt | hge
  · exact (List.pairwise_iff_getElem.1 h) i j (by omega) hj hlt
  · have : i = j := by omega
    subst this; exact ltW_irrefl _
end Go.Proofs.YtklbehapbchnaaaDoor
namespace Go.Proofs.YtklbehapbchnaaaDoor
open Go.RowKit
set_option linter.unusedVariables false
/-- a slice from which elements are taken -/
def Src (w : World) (x : Value) (m : Nat) (news : List Value) : Prop :=
  (x = .slice none 0 0 ∧ m = 0 ∧ news = []) ∨ ∃ ad c, x = .slice (some ad) m c ∧ ∀ j u, news[j]? = some u → w.cell? (ad.add j) = some u
theorem add_off (b o j : Nat) : (⟨b, o, none⟩ : Addr).add j = ⟨b, o + j, none⟩ := by unfold Addr.add; split <;> simp_all
theorem Src.lit {w : World} {T : TypeId} {c m : Nat} (news : List Value) : Src (w.alloc (.cells news.toArray T)) (.slice (some ⟨w.heap.size, 0, none⟩) m c) m news := by
  refine .inr ⟨_, _, rfl, fun j u hu => ?_⟩
  rw [add_off, Nat.zero_add, World.cell?_alloc_new]
  simpa using hu
theorem Src.later {w w' : World} {x : Value} {m : Nat} {news : List Value} (h : Src w x m news) (hb : Below w.heap.size w w') : Src w' x m news := by
  rcases h with h | ⟨ad, c, hx, hc⟩
  · exact .inl h
  · refine .inr ⟨ad, c, hx, fun j u hu => ?_⟩
    have h1 := hc j u hu
    rw [hb.cell (World.block_lt_of_cell? w _ h1)]
    exact h1
section
variable {P : Program}
theorem run_appM {tsl ty T : TypeId} {z : Value} {size bytes : Nat} (ht : P.underlying tsl = some (.slice T)) (hinfo : (P.info? T).map (fun i => (i.zero, i.size, i.bytes)) = some (some z, size, bytes))
    (hzs : z.cells.size = size) (hpos : 0 < size) {w wr : World} {v x : Value} {n m : Nat} {xs news : List Value} (hb : Bld T size w wr v n xs) (hx : Src wr x m news)
    (hn : news.length = m * size) (h1 : ∀ u ∈ news, u.oneCell' = true) (h63 : n + m ≤ maxLen) (hbytes : (n + m) * bytes ≤ 140737488355328) :
    ∃ v' w', (Builtin.append_ #[tsl, tsl] ty #[v, x]).run P wr = .ok v' w' ∧ Bld T size w w' v' (n + m) (xs ++ news) ∧ wr.grownBy w' v.ownBlock ∧ (v'.ownBlock = v.ownBlock ∨ v'.ownBlock = some wr.heap.size) := by
  obtain ⟨i0, hi, hz0, hz1, hz2⟩ := info_parts hinfo
  rcases hx with ⟨rfl, rfl, rfl⟩ | ⟨ad, c, rfl, hc⟩
  · refine ⟨v, wr, run_append_owned_none wr w.heap.size tsl ty T i0 size ht hi v n xs hb.1, by simpa using hb, ⟨rfl, rfl, rfl, Nat.le_refl _, fun _ _ _ => rfl⟩, .inl rfl⟩
  · obtain ⟨v', w', hr, h2, h3, h4, h5⟩ := run_append_own_at (P := P) wr w.heap.size tsl ty T i0 z size bytes ht hi hz0 hz1 hz2 hzs hpos v n xs hb.1 ad m c news hn hc h1 h63 hbytes hb.2.size
    exact ⟨v', w', hr, ⟨h2, hb.2.grown h3 hb.2.size (owns_block hb.1)⟩, h3, h5⟩
/-- the same at a plain region's list -/
theorem wpList_appM {ops : Array Oper} {rest : List Oper} {o : Oper} {a : Act} {Q : Exit → Act → World → Prop} {T tsl : TypeId} {z : Value} {size bytes : Nat} (hg : o.guard = none) (s x : Operand)
    (ho : o.op = .call { callee := .builtin .append, args := #[s, x], argTypes := #[tsl, tsl] }) (ht : P.underlying tsl = some (.slice T)) (hinfo : (P.info? T).map (fun i => (i.zero, i.size, i.bytes)) = some (some z, size, bytes))
    (hzs : z.cells.size = size) (hpos : 0 < size) {w wr : World} {v u : Value} {n m : Nat} {xs news : List Value} (hs : a.eval s = v) (hb : Bld T size w wr v n xs) (hx : a.eval x = u) (hsrc : Src wr u m news)
    (hn : news.length = m * size) (h1 : ∀ u ∈ news, u.oneCell' = true) (h63 : n + m ≤ maxLen) (hbytes : (n + m) * bytes ≤ 140737488355328)
    (hK : ∀ v' w', Bld T size w w' v' (n + m) (xs ++ news) → wr.grownBy w' v.ownBlock → (v'.ownBlock = v.ownBlock ∨ v'.ownBlock = some wr.heap.size) → wpList P ops Q rest (a.put o.dst v') w') : wpList P ops Q (o :: rest) a wr := by
  refine wpList_plain hg fun K hK' => ?_
  obtain ⟨v', w', hr, h2, h3, h4⟩ := run_appM (ty := o.type) ht hinfo hzs hpos hb hsrc hn h1 h63 hbytes
  unfold Oper.wp execOp
  simp only [ho, resolve, invoke, builtin, Sem.run_bind, Sem.run_pure, Result.andThen_ok, List.map_toArray, List.map_cons, List.map_nil, hs, hx, hr]
  exact hK' _ _ (hK _ _ h2 h3 h4)
end
end Go.Proofs.YtklbehapbchnaaaDoor
namespace Go.Proofs.YtklbehapbchnaaaDoor
set_option linter.unusedVariables false
section
variable {α : Type} (F : List α → Prop) (N : List α → List α → Prop)
variable {F N}
end
end Go.Proofs.YtklbehapbchnaaaDoor
namespace Go.Proofs.YtklbehapbchnaaaDoor
open Go.RowKit
set_option linter.unusedVariables false
/-- an answer that tells whether P -/
def RetP (P : Prop) (w : World) (e : Ending) (w' : World) : Prop := ∃ b : Bool, (b = true ↔ P) ∧ e = .returned (.bool b) ∧ Below w.heap.size w w'
theorem RetP.yes {P : Prop} {w w' : World} (h : P) (hb : Below w.heap.size w w') : RetP P w (.returned (.bool true)) w' := ⟨true, ⟨fun _ => h, fun _ => rfl⟩, rfl, hb⟩
theorem RetP.no {P : Prop} {w w' : World} (h : ¬ P) (hb : Below w.heap.size w w') : RetP P w (.returned (.bool false)) w' := ⟨false, ⟨fun h => (by cases h), fun h2 => absurd h2 h⟩, rfl, hb⟩
end Go.Proofs.YtklbehapbchnaaaDoor
namespace Go.Proofs.YtklbehapbchnaaaDoor
open Go.RowKit
set_option linter.unusedVariables false
theorem Tryd.infoStr : (Tryd.prog.info? 9).map (fun i => (i.zero, i.size, i.bytes)) = some (some (.string ⟨#[]⟩), 1, 16) := by kernel_rfl
theorem nil_app (x : ByteArray) : (⟨#[]⟩ : ByteArray) ++ x = x := by ext1; simp
def strVals (l : List ByteArray) : List Value := l.map Value.string
theorem owns_strs {w : World} {base : Nat} {T : TypeId} {size : Nat} {a : Option Addr} {n m cap : Nat} {l : List ByteArray} (h : w.ownsRow base T size (.slice a m cap) n (strVals l)) : StrsIn w a l := owns_cells h
theorem owns_capS {w : World} {base : Nat} {T : TypeId} {size : Nat} {a : Option Addr} {n m cap : Nat} {xs : List Value} (h : w.ownsRow base T size (.slice a n cap) m xs) : n ≤ cap ∧ cap ≤ maxLen := by
  rcases h.2 with ⟨hv, h0⟩ | ⟨g, cap', cur, hv, hb, hg, hn, hc, r⟩
  · simp only [Value.slice.injEq] at hv
    obtain ⟨_, rfl, rfl⟩ := hv
    exact ⟨Nat.le_refl _, Nat.zero_le _⟩
  · simp only [Value.slice.injEq] at hv
    obtain ⟨_, rfl, rfl⟩ := hv
    exact ⟨hn, hc⟩
set_option maxHeartbeats 400000 in
theorem implJoin_any (l : List ByteArray) (sep : ByteArray) (a : Option Addr) (cap : Nat) (w : World) (hl : StrsIn w a l) (hs0 : 0 < sep.size) (hs1 : sep.size ≤ 1000) (hlen : l.length ≤ 2 ^ 40) (hcap : l.length ≤ cap ∧ cap ≤ maxLen)
    (hsz : (joinF l sep).size ≤ 2 ^ 46) :
    Calls Tryd.prog 28 #[.slice a l.length cap, .string sep] w fun e w' => e = .returned (.string (joinF l sep)) ∧ Below w.heap.size w w' := by
  have HJ := Lib.hid (join_any l sep a cap w hl hs0 hs1 hlen hcap hsz)
  clear hl hsz
  go_enter Tryd.func28, Tryd.ntmps28
  go_wp2_with fail
  refine HJ.out.mono ?_
  rintro e w2 ⟨rfl, hb2⟩
  go_wp2_with fail
  go_ret
  exact ⟨rfl, hb2⟩
set_option maxHeartbeats 1000000 in
theorem specJoin_any (l : List ByteArray) (sep : ByteArray) (a : Option Addr) (cap : Nat) (w : World) (hl : StrsIn w a l) (hs1 : sep.size ≤ 1000) (hlen : l.length ≤ 2 ^ 40) (hsz : (joinF l sep).size ≤ 2 ^ 46) :
    Calls Tryd.prog 33 #[.slice a l.length cap, .string sep] w fun e w' => e = .returned (.string (joinF l sep)) ∧ Below w.heap.size w w' := by
  have HL := Lib.hid hl
  have HZ := Lib.hid hsz
  clear hl hsz
  go_enter Tryd.func33, Tryd.ntmps33
  go_wp2_with fail
  go_loopw [5, 10] (fun s i wr => ∃ j : Nat, j ≤ l.length ∧ i = .int .i64 j ∧ s = .string (joinTo l sep j) ∧ wr = w) (fun _ i _ => l.length - (intOf i).toNat)
  case atStart => exact ⟨0, Nat.zero_le _, rfl, rfl, rfl⟩
  case round =>
    obtain ⟨j, hj, rfl, rfl, rfl⟩ := hrel
    by_cases hlt : j < l.length
    · obtain ⟨b, off, rfl, hb, hc⟩ := HL.out.cell hlt
      have c1 := hc j hlt
      have hm1 : (joinTo l sep (j + 1)).size ≤ 2 ^ 46 := Nat.le_trans (joinTo_mono l sep hlt) HZ.out
      clear hc
      rcases Nat.eq_zero_or_pos j with rfl | h0
      · have F := Lib.hid (joinTo_one l sep)
        have F0 : Hid (joinTo l sep 0 = ⟨#[]⟩) := Lib.hid rfl
        rw [Nat.zero_add, F.out] at hm1
        rw [F0.out]
        rw [Nat.add_zero] at c1
        go_wp2_with fail
        go_roundw
        case rel => exact ⟨1, by omega, by go_num, by rw [F.out, nil_app], trivial⟩
        case measure => simp [intOf]; omega
      · have F := Lib.hid (joinTo_succ l sep h0)
        rw [F.out, ByteArray.size_append, ByteArray.size_append] at hm1
        generalize joinTo l sep j = out at *
        go_wp2_with fail
        go_roundw
        case rel => exact ⟨j + 1, by omega, by go_num, by rw [F.out], trivial⟩
        case measure => simp [intOf]; omega
    · obtain rfl : j = l.length := by omega
      have F : Hid (joinF l sep = joinTo l sep l.length) := Lib.hid rfl
      go_wp2_with fail
      go_ret
      exact ⟨ret_str F.out.symm, Below.refl _ _⟩
/-- a full stop for the empty word -/
def dotB (s : ByteArray) : ByteArray := if s.toList.isEmpty = true then ⟨#[46]⟩ else s
end Go.Proofs.YtklbehapbchnaaaDoor
namespace Go.Proofs.YtklbehapbchnaaaDoor
open Go.RowKit
set_option linter.unusedVariables false
/-- the sizes of all -/
theorem sumTo_eq (l : List ByteArray) : ∀ j, j ≤ l.length → sumTo l j = ((l.take j).map ByteArray.size).sum
  | 0, _ => by simp [sumTo]
  | j + 1, h => by
    rw [sumTo, sumTo_eq l j (by omega), List.take_succ_eq_append_getElem (by omega), nthS_lt (by omega), List.map_append, List.sum_append]
    simp only [List.map_cons, List.map_nil, List.sum_cons, List.sum_nil, Nat.add_zero]
def strSum (l : List ByteArray) : Nat := (l.map ByteArray.size).sum
theorem joinF_size (l : List ByteArray) (sep : ByteArray) : (joinF l sep).size ≤ strSum l + sep.size * l.length := by
  unfold joinF
  cases h : l.length with
  | zero => exact Nat.zero_le _
  | succ n =>
    rw [joinTo_size, sumTo_eq l _ (by omega), List.take_of_length_le (by omega), Nat.mul_succ]
    unfold strSum
    omega
end Go.Proofs.YtklbehapbchnaaaDoor
