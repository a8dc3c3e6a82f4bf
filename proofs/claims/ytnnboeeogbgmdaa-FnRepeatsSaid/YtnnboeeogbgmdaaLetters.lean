/-
  Letters, and all words of a length.
-/
import Derived.Test.YtnnboeeogbgmdaaFirstS
import Derived.Laws.BytesArg
namespace Go.Proofs.Ytnnboeeogbgmdaa
open Go.RowKit
set_option linter.unusedVariables false
/-- a text of one byte -/
def oneC (x : Int) : ByteArray := ⟨#[UInt8.ofNat x.toNat]⟩
theorem convC (w : World) (x : Int) :
    (convert 22 9 (.slice (some ⟨w.heap.size, 0, none⟩) 1 1)).run Try.prog (w.alloc (.cells #[.int .u8 x] 5)) = .ok (.string (oneC x)) (w.alloc (.cells #[.int .u8 x] 5)) :=
  run_convert_bytes_arg (P := Try.prog) (w.alloc (.cells #[.int .u8 x] 5)) 22 5 Try.underlying22 Try.underlying5 w.heap.size 0 1 1 [x] rfl (fun i hi => by
    obtain rfl : i = 0 := by omega
    simp) 9 Try.underlying9
/-- the letter of a number -/
def letterN (x : Nat) : ByteArray := oneC (97 + (x : Int))
theorem letterN_size (x : Nat) : (letterN x).size = 1 := rfl
theorem letterOf_any (x : Nat) (w : World) (hx : x < 26) : Calls Try.prog 56 #[.int .i64 (x : Nat)] w fun e w' => e = .returned (.string (letterN x)) ∧ Below w.heap.size w w' := by
  have kc := convC
  have hu : IntKind.u8.wrap (97 + (x : Int)) = 97 + (x : Int) := by simp [IntKind.wrap, IntKind.signed, IntKind.bits]; omega
  have HL : Hid (oneC (97 + (x : Int)) = letterN x) := Lib.hid rfl
  go_enter Try.func56, Try.ntmps56
  go_wp2_with fail
  go_ret
  exact ⟨rfl, (Below.refl _ _).alloc (Nat.le_refl _) _⟩
theorem l13Letter_any (x : Nat) (w : World) (hx : x < 26) : Calls Try.prog 90 #[.int .i64 (x : Nat)] w fun e w' => e = .returned (.string (letterN x)) ∧ Below w.heap.size w w' := by
  have kc := convC
  have hu : IntKind.u8.wrap (97 + (x : Int)) = 97 + (x : Int) := by simp [IntKind.wrap, IntKind.signed, IntKind.bits]; omega
  have HL : Hid (oneC (97 + (x : Int)) = letterN x) := Lib.hid rfl
  go_enter Try.func90, Try.ntmps90
  go_wp2_with fail
  go_ret
  exact ⟨rfl, (Below.refl _ _).alloc (Nat.le_refl _) _⟩
/-- a word with each letter behind it -/
def exts (v : ByteArray) (x : Nat) : List ByteArray := (List.range x).map fun x => v ++ letterN x
def longer (k : Nat) (l : List ByteArray) : List ByteArray := l.flatMap fun v => exts v k
def longTo (k : Nat) (l : List ByteArray) (j : Nat) : List ByteArray := (l.take j).flatMap fun v => exts v k
theorem exts_succ (v : ByteArray) (x : Nat) : exts v (x + 1) = exts v x ++ [v ++ letterN x] := by simp [exts, List.range_succ]
theorem exts_zero (v : ByteArray) : exts v 0 = [] := rfl
theorem exts_len (v : ByteArray) (x : Nat) : (exts v x).length = x := by simp [exts]
theorem longTo_zero (k : Nat) (l : List ByteArray) : longTo k l 0 = [] := by simp [longTo]
theorem longTo_succ {k : Nat} {l : List ByteArray} {j : Nat} (hj : j < l.length) : longTo k l (j + 1) = longTo k l j ++ exts (nthS l j) k := by
  unfold longTo
  rw [List.take_succ_eq_append_getElem hj, List.flatMap_append, nthS_lt hj]; simp
theorem longTo_full (k : Nat) (l : List ByteArray) : longTo k l l.length = longer k l := by unfold longTo longer; rw [List.take_length]
theorem longTo_len (k : Nat) (l : List ByteArray) : ∀ j, j ≤ l.length → (longTo k l j).length = j * k
  | 0, _ => by rw [longTo_zero]; simp
  | j + 1, h => by rw [longTo_succ (by omega), List.length_append, longTo_len k l j (by omega), exts_len, Nat.add_mul]; omega
/-- the words of a length -/
def lev (k : Nat) : Nat → List ByteArray
  | 0 => [⟨#[]⟩]
  | j + 1 => longer k (lev k j)
theorem lev_len (k : Nat) : ∀ j, (lev k j).length = k ^ j
  | 0 => rfl
  | j + 1 => by
    show (longer k (lev k j)).length = _
    rw [← longTo_full, longTo_len k _ _ (Nat.le_refl _), lev_len k j, Nat.pow_succ]
theorem lev_size (k : Nat) : ∀ j, ∀ v ∈ lev k j, v.size = j
  | 0, v, hv => by rw [List.mem_singleton.1 hv]; rfl
  | j + 1, v, hv => by
    obtain ⟨u, hu, hv⟩ := List.mem_flatMap.1 hv
    obtain ⟨x, _, rfl⟩ := List.mem_map.1 hv
    rw [ByteArray.size_append, lev_size k j u hu]; rfl
theorem pow_le {k n : Nat} (hk : k ≤ 4) (hn : n ≤ 8) : k ^ n ≤ 65536 :=
  Nat.le_trans (Nat.pow_le_pow_left hk n) (Nat.le_trans (Nat.pow_le_pow_right (by omega) hn) (by decide))
theorem strVals_app (l m : List ByteArray) : strVals (l ++ m) = strVals l ++ strVals m := by simp [strVals]
theorem strVals_one (v : ByteArray) : strVals [v] = [.string v] := rfl
set_option maxHeartbeats 2000000 in
theorem longerWords_any (k : Nat) (l : List ByteArray) (a : Option Addr) (cap : Nat) (w : World) (hl : StrsIn w a l) (hk : k ≤ 4) (hlen : l.length ≤ 65536) (hsz : ∀ v ∈ l, v.size ≤ 100) :
    Calls Try.prog 59 #[.int .i64 (k : Nat), .slice a l.length cap] w (RetSl 9 1 (longer k l).length (strVals (longer k l)) w) := by
  have HL := Lib.hid hl
  have HZ := Lib.hid hsz
  have hb0 := Below.refl w.heap.size w
  clear hl hsz
  go_enter Try.func59, Try.ntmps59
  go_wp2_with fail
  have HS : Hid (Bld 9 1 w w (.slice none 0 0) (longTo k l 0).length (strVals (longTo k l 0))) := Lib.hid (by rw [longTo_zero]; exact Bld.nil _ _ hb0)
  clear hb0
  go_loopw [5, 11] (fun v i wr => ∃ j : Nat, j ≤ l.length ∧ i = .int .i64 j ∧ Bld 9 1 w wr v (longTo k l j).length (strVals (longTo k l j))) (fun _ i _ => l.length - (intOf i).toNat)
  case atStart => exact ⟨0, Nat.zero_le _, rfl, HS.out⟩
  case round =>
    clear HS
    obtain ⟨j, hj, rfl, hb⟩ := hrel
    have hle := longTo_len k l j hj
    have hjk : j * k ≤ 262144 := Nat.le_trans (Nat.mul_le_mul (Nat.le_trans hj hlen) hk) (by decide)
    have HB := Lib.hid hb
    clear hb
    by_cases hlt : j < l.length
    · have hcell : ∃ b off, a = some ⟨b, off, none⟩ ∧ wr.cell? ⟨b, off + j, none⟩ = some (.string (nthS l j)) := by
        rcases HL.out.later HB.out.2 with h | ⟨b, off, ha, hc⟩
        · have : l = [] := by simpa using h
          subst this; simp at hlt
        · exact ⟨b, off, ha, by rw [hc j (by simpa using hlt), List.getElem_map, nthS_lt hlt]⟩
      obtain ⟨b, off, rfl, hc⟩ := hcell
      have hvs : (nthS l j).size ≤ 100 := HZ.out _ (by rw [nthS_lt hlt]; exact List.getElem_mem _)
      have HX := Lib.hid (longTo_succ (k := k) hlt)
      have hB0 := HB.out
      rw [show longTo k l j = longTo k l j ++ exts (nthS l j) 0 by rw [exts_zero, List.append_nil]] at hB0
      have HB0 := Lib.hid hB0
      clear hB0
      generalize nthS l j = v at *
      generalize hq : longTo k l j = q at *
      clear hq
      go_wp2_with fail
      clear hc HB
      go_loopw [5, 16] (fun u i wr => ∃ x : Nat, x ≤ k ∧ i = .int .i64 x ∧ Bld 9 1 w wr u (q ++ exts v x).length (strVals (q ++ exts v x))) (fun _ i _ => k - (intOf i).toNat)
      case atStart => exact ⟨0, Nat.zero_le _, rfl, HB0.out⟩
      case round =>
        clear HB0
        obtain ⟨x, hx, rfl, hb⟩ := hrel
        have hll : (q ++ exts v x).length ≤ 262148 := by rw [List.length_append, exts_len]; omega
        have HB := Lib.hid hb
        have HY : Hid (q ++ exts v (x + 1) = (q ++ exts v x) ++ [v ++ letterN x]) := Lib.hid (by rw [exts_succ, List.append_assoc])
        have HFin : Hid (x = k → longTo k l (j + 1) = q ++ exts v x) := Lib.hid (fun h => by rw [HX.out, h])
        clear hb
        generalize q ++ exts v x = r at *
        by_cases hxk : x < k
        · have hsum : ¬ 9223372036854775807 < v.size + (letterN x).size := by rw [letterN_size]; omega
          have HLe := Lib.hid (fun W => letterOf_any x W (by omega))
          generalize letterN x = y at *
          go_wp2_with fail
          refine (HLe.out _).mono ?_
          rintro e w2 ⟨rfl, hb2⟩
          have HB2 := Lib.hid (HB.out.later hb2)
          clear hb2
          go_wp2_with (at_builtin; refine wpList_app1 rfl _ _ rfl Try.underlying33 Try.infoStr rfl (by decide) rfl HB2.out rfl rfl ?c1 ?c2 ?c3 ?c4)
          case c1 => simp [Value.oneCell']
          case c2 => unfold maxLen; omega
          case c3 => omega
          intro v3 w3 hb3
          have F3 : Hid (Bld 9 1 w w3 v3 (q ++ exts v (x + 1)).length (strVals (q ++ exts v (x + 1)))) := Lib.hid (by
            rw [HY.out, List.length_append, strVals_app, strVals_one]; exact hb3)
          clear hb3 hsum
          go_wp2_with fail
          go_roundw
          case rel => exact ⟨x + 1, by omega, by go_num, F3.out⟩
          case measure => simp [intOf]; omega
        · have F3 := Lib.hid (HFin.out (by omega))
          go_wp2_with fail
          go_roundw
          case rel => exact ⟨j + 1, by omega, by go_num, by rw [F3.out]; exact HB.out⟩
          case measure => simp [intOf]; omega
    · obtain rfl : j = l.length := by omega
      have F : Hid (∀ u wr, Bld 9 1 w wr u (longTo k l l.length).length (strVals (longTo k l l.length)) → RetSl 9 1 (longer k l).length (strVals (longer k l)) w (.returned u) wr) := Lib.hid (fun u wr h => by rw [longTo_full] at h; exact h.ret)
      have F2 := Lib.hid (F.out _ _ HB.out)
      obtain ⟨va, vc, rfl⟩ := owns_form HB.out.1
      clear hle
      go_wp2_with fail
      go_ret
      exact F2.out
end Go.Proofs.Ytnnboeeogbgmdaa
