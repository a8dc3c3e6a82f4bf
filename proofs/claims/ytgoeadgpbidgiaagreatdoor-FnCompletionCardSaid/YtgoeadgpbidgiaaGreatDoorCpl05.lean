/-
  SidesOk, RulesOk, SystemOk, of the program and of the reference.
-/
import Derived.Test.YtgoeadgpbidgiaaGreatDoorCpl04
import Derived.Test.YtgoeadgpbidgiaaGreatDoorCpl02
import Derived.Sort.OwnSorted
import Derived.Test.YtgoeadgpbidgiaaGreatDoorCpl01
import Derived.Test.YtgoeadgpbidgiaaGreatDoorCpl03
import Derived.Shelf.Abstract
namespace Go.Proofs.YtgoeadgpbidgiaaGreatDoor
open Go.RowKit
set_option linter.unusedVariables false
/-- the bytes of a word -/
def blW (s : ByteArray) : List UInt8 := s.data.toList
def blsW (l : List ByteArray) : List (List UInt8) := l.map blW
theorem blW_inj {a b : ByteArray} (h : blW a = blW b) : a = b := by
  obtain ⟨⟨x⟩⟩ := a
  obtain ⟨⟨y⟩⟩ := b
  have : x = y := h
  rw [this]
theorem blsW_mem {u : ByteArray} {l : List ByteArray} : blW u ∈ blsW l ↔ u ∈ l := by
  unfold blsW
  rw [List.mem_map]
  constructor
  · rintro ⟨x, hx, he⟩; rw [← blW_inj he]; exact hx
  · intro h; exact ⟨u, h, rfl⟩
theorem blsW_len (l : List ByteArray) : (blsW l).length = l.length := by simp [blsW]
theorem blsW_nth {l : List ByteArray} {i : Nat} (h : i < l.length) : (blsW l)[i]'(by rw [blsW_len]; exact h) = blW (nthS l i) := by rw [nthS_lt h]; simp [blsW]
/-- the order of words -/
def lessS (a b : ByteArray) : Bool := ltW (blW a) (blW b)
/-- strictly sorted -/
def SortedS (l : List ByteArray) : Prop := SortedW (blsW l)
theorem SortedS.ext {x y : List ByteArray} (hx : SortedS x) (hy : SortedS y) (h : ∀ u, u ∈ x ↔ u ∈ y) : x = y := by
  have key : ∀ {x y : List ByteArray}, (∀ u, u ∈ x ↔ u ∈ y) → ∀ u, u ∈ blsW x → u ∈ blsW y := fun h u hu => by
    obtain ⟨v, hv, rfl⟩ := List.mem_map.1 hu
    exact blsW_mem.2 ((h v).1 hv)
  have h1 := SortedW.ext hx hy (fun u => ⟨key h u, key (fun u => (h u).symm) u⟩)
  exact (List.map_inj_right (fun a b => blW_inj)).1 h1
theorem nodup_bls {x : List ByteArray} (h : (blsW x).Nodup) : x.Nodup := by
  unfold blsW at h
  unfold List.Nodup at *
  rw [List.pairwise_map] at h
  exact h.imp (fun h e => h (by rw [e]))
theorem SortedS.nodup {x : List ByteArray} (hx : SortedS x) : x.Nodup := nodup_bls (SortedW.nodup hx)
theorem SortedS.nil : SortedS [] := List.Pairwise.nil
theorem lessS_same {u v : ByteArray} (h : u.size = v.size) : lessS u v = Op.bytesLess u.toList v.toList := by
  have h1 : (blW u).length = (blW v).length := h
  unfold lessS ltW
  rw [bytesLess_eq, Lib.toList_data, Lib.toList_data]
  unfold blW at *
  simp [h1]
theorem lessS_other {u v : ByteArray} (h : ¬ u.size = v.size) : lessS u v = decide (u.size < v.size) := by
  have h1 : ¬ (blW u).length = (blW v).length := h
  have h2 : (blW u).length = u.size := rfl
  have h3 : (blW v).length = v.size := rfl
  unfold lessS ltW
  simp [h1]
  rw [h2, h3]
set_option maxHeartbeats 400000 in
theorem specIsLess_any (u v : ByteArray) (w : World) (hu : u.size ≤ maxLen) (hv : v.size ≤ maxLen) :
    Calls Tryz.prog 142 #[.string u, .string v] w fun e w' => e = .returned (.bool (lessS u v)) ∧ w = w' := by
  unfold maxLen at hu hv
  by_cases h : u.size = v.size
  · have F := Lib.hid (lessS_same h)
    have h1 : ((u.size : Int) == (v.size : Int)) = true := by simp [h]
    have h2 : ((u.size : Int) != (v.size : Int)) = false := by simp [h]
    clear h
    go_enter Tryz.func142, Tryz.ntmps142
    go_wp2_with fail
    go_ret
    exact ⟨ret_bool F.out.symm, rfl⟩
  · have F := Lib.hid (lessS_other h)
    have h1 : ((u.size : Int) == (v.size : Int)) = false := by rw [beq_eq_false_iff_ne]; omega
    have h2 : ((u.size : Int) != (v.size : Int)) = true := by rw [bne_iff_ne]; omega
    go_enter Tryz.func142, Tryz.ntmps142
    go_wp2_with fail
    go_ret
    exact ⟨ret_bool F.out.symm, rfl⟩
/-- a word comes to its place -/
def insS (x : ByteArray) (q : List ByteArray) (k : Nat) : List ByteArray := q.take k ++ [x] ++ q.drop k
theorem insS_bls (x : ByteArray) (q : List ByteArray) (k : Nat) : blsW (insS x q k) = insK (blW x) (blsW q) k := by
  unfold insS insK blsW
  rw [List.map_append, List.map_append, List.map_take, List.map_drop]; rfl
theorem insS_mem {x : ByteArray} {q : List ByteArray} {k : Nat} (u : ByteArray) : u ∈ insS x q k ↔ u ∈ q ∨ u = x := by
  rw [← blsW_mem, insS_bls, insK_mem, blsW_mem]
  exact ⟨fun h => h.imp id blW_inj, fun h => h.imp id (fun e => by rw [e])⟩
theorem insS_len {x : ByteArray} {q : List ByteArray} {k : Nat} (hk : k ≤ q.length) : (insS x q k).length = q.length + 1 := by
  have h := insK_len (w := blW x) (l := blsW q) (k := k) (by rw [blsW_len]; exact hk)
  rwa [← insS_bls, blsW_len, blsW_len] at h
theorem insS_sorted {x : ByteArray} {q : List ByteArray} {k : Nat} (hq : SortedS q) (hx : ¬ x ∈ q) (hk : k ≤ q.length) (hlo : ∀ i, i < k → lessS (nthS q i) x = true) (hhi : k < q.length → lessS (nthS q k) x = false) : SortedS (insS x q k) := by
  unfold SortedS
  rw [insS_bls]
  refine insK_sorted hq (fun h => hx (blsW_mem.1 h)) (by rw [blsW_len]; exact hk) (fun i h hi => ?_) (fun h => ?_)
  · rw [blsW_len] at h; rw [blsW_nth h]; exact hlo i hi
  · rw [blsW_len] at h; rw [blsW_nth h]; exact hhi h
/-- what a call hands back: the sorted set of the words that have a property -/
def RetSet (P : ByteArray → Prop) (w : World) (e : Ending) (w' : World) : Prop := ∃ q, SortedS q ∧ (∀ u, u ∈ q ↔ P u) ∧ RetSl 9 1 q.length (strVals q) w e w'
theorem owns_cap {w : World} {base : Nat} {T : TypeId} {size n m cap : Nat} {a : Option Addr} {xs : List Value} (h : w.ownsRow base T size (.slice a m cap) n xs) : n ≤ cap ∧ cap ≤ maxLen := by
  rcases h.2 with ⟨hv, h0⟩ | ⟨g, cap', cur, hv, hb, hg, hn, hc, hs, ht⟩
  · cases hv; exact ⟨by omega, by unfold maxLen; omega⟩
  · cases hv; exact ⟨hn, hc⟩
theorem owns_someS {w : World} {base : Nat} {T : TypeId} {v : Value} {n : Nat} {xs : List Value} (h : w.ownsRow base T 1 v n xs) (h0 : 0 < n) : ∃ g cap, v = .slice (some ⟨g, 0, none⟩) n cap := by
  rcases h.2 with ⟨hv, h1⟩ | ⟨g, cap', cur, hv, _⟩
  · omega
  · exact ⟨g, cap', hv⟩
/-- the state of the sort: the first j have come to their places -/
def StSort (xs : List ByteArray) (w : World) (v : Value) (j : Nat) (wr : World) : Prop := ∃ q g cap, v = .slice (some ⟨g, 0, none⟩) q.length cap ∧ SortedS q ∧ (∀ u, u ∈ q ↔ u ∈ xs.take j) ∧ q.length = j ∧ Bld 9 1 w wr v q.length (strVals q)
theorem strVals_one (l : List ByteArray) : ∀ u ∈ strVals l, u.oneCell' = true := fun u hu => by
  obtain ⟨x, _, rfl⟩ := List.mem_map.1 hu; rfl
theorem take_mem {l : List ByteArray} {j : Nat} (h : j < l.length) (u : ByteArray) : u ∈ l.take (j + 1) ↔ u ∈ l.take j ∨ u = nthS l j := by
  rw [List.take_succ_eq_append_getElem h, List.mem_append, List.mem_singleton, nthS_lt h]
theorem nodup_take {l : List ByteArray} (hn : l.Nodup) {j : Nat} (h : j < l.length) : ¬ nthS l j ∈ l.take j := fun hm => by
  rw [nthS_lt h] at hm
  obtain ⟨i, hi, he⟩ := List.getElem_of_mem hm
  rw [List.length_take] at hi
  rw [List.getElem_take] at he
  exact (List.pairwise_iff_getElem.1 hn) i j (by omega) h (by omega) he
end Go.Proofs.YtgoeadgpbidgiaaGreatDoor
namespace Go.Proofs.YtgoeadgpbidgiaaGreatDoor
open Go.RowKit Go.Sort
set_option linter.unusedVariables false
/-- cmp.Compare at strings -/
def cmpS (a b : List UInt8) : Int := if Op.bytesLess a b = true then -1 else if (a == b) = true then 0 else 1
/-- cmp.Or at two integers -/
def orF (x y : Int) : Int := if (x == 0) = true then y else x
/-- compareWords -/
def cfW (a b : ByteArray) : Int := orF (Lib.compareInt (a.size : Int) (b.size : Int)) (cmpS a.toList b.toList)
set_option maxHeartbeats 400000 in
theorem isNaNS_any (a : ByteArray) (w : World) : Calls Tryz.prog 166 #[.string a] w fun e w' => e = .returned (.bool false) ∧ w = w' := by
  go_enter Tryz.func166, Tryz.ntmps166
  go_wp2_with fail
  go_ret
  exact ⟨rfl, rfl⟩
set_option maxHeartbeats 400000 in
theorem compareS_any (a b : ByteArray) (w : World) : Calls Tryz.prog 133 #[.string a, .string b] w fun e w' => e = .returned (.int .i64 (cmpS a.toList b.toList)) ∧ w = w' := by
  cases h1 : Op.bytesLess a.toList b.toList
  · cases h2 : (a.toList == b.toList)
    · have F : Hid (cmpS a.toList b.toList = 1) := Lib.hid (by unfold cmpS; rw [h1, h2]; rfl)
      go_enter Tryz.func133, Tryz.ntmps133
      go_wp2_with (go_at_call 166; refine (isNaNS_any _ _).mono ?_; rintro e w' ⟨rfl, rfl⟩)
      go_ret
      exact ⟨ret_int F.out.symm, rfl⟩
    · have F : Hid (cmpS a.toList b.toList = 0) := Lib.hid (by unfold cmpS; rw [h1, h2]; rfl)
      go_enter Tryz.func133, Tryz.ntmps133
      go_wp2_with (go_at_call 166; refine (isNaNS_any _ _).mono ?_; rintro e w' ⟨rfl, rfl⟩)
      go_ret
      exact ⟨ret_int F.out.symm, rfl⟩
  · have F : Hid (cmpS a.toList b.toList = -1) := Lib.hid (by unfold cmpS; rw [h1]; rfl)
    go_enter Tryz.func133, Tryz.ntmps133
    go_wp2_with (go_at_call 166; refine (isNaNS_any _ _).mono ?_; rintro e w' ⟨rfl, rfl⟩)
    go_ret
    exact ⟨ret_int F.out.symm, rfl⟩
set_option maxHeartbeats 400000 in
theorem orInt_any (x y : Int) (b cap : Nat) (w : World) (h0 : w.cell? ⟨b, 0, none⟩ = some (.int .i64 x)) (h1 : w.cell? ⟨b, 1, none⟩ = some (.int .i64 y)) :
    Calls Tryz.prog 131 #[.slice (some ⟨b, 0, none⟩) 2 cap] w fun e w' => e = .returned (.int .i64 (orF x y)) ∧ w = w' := by
  go_enter Tryz.func131, Tryz.ntmps131
  go_wp2_with fail
  go_loop [8] (fun i => ∃ j : Nat, j ≤ 2 ∧ i = .int .i64 (j : Nat) ∧ Hid (0 < j → x = 0) ∧ Hid (1 < j → y = 0)) (fun i => 2 - (intOf i).toNat)
  case atStart => exact ⟨0, Nat.zero_le _, rfl, Lib.hid (by omega), Lib.hid (by omega)⟩
  case round =>
    obtain ⟨j, hj, rfl, hx, hy⟩ := hrel
    rcases (show j = 0 ∨ j = 1 ∨ j = 2 by omega) with h | h | h
    · subst h
      cases hq : (x == 0)
      · have hn : (x != 0) = true := by rw [bne, hq]; rfl
        have F : Hid (orF x y = x) := Lib.hid (by unfold orF; rw [hq]; rfl)
        go_wp2_with fail
        go_ret
        exact ⟨ret_int F.out.symm, rfl⟩
      · have hn : (x != 0) = false := by rw [bne, hq]; rfl
        have hx2 : Hid (x = 0) := Lib.hid (by simpa using hq)
        go_wp2_with fail
        go_round
        case rel => exact ⟨1, by omega, by go_num, Lib.hid (fun _ => hx2.out), Lib.hid (by omega)⟩
        case measure => simp [intOf]
    · subst h
      have hx2 : Hid (orF x y = y) := Lib.hid (by unfold orF; rw [hx.out (by omega)]; rfl)
      cases hq : (y == 0)
      · have hn : (y != 0) = true := by rw [bne, hq]; rfl
        go_wp2_with fail
        go_ret
        exact ⟨ret_int hx2.out.symm, rfl⟩
      · have hn : (y != 0) = false := by rw [bne, hq]; rfl
        have hy2 : Hid (y = 0) := Lib.hid (by simpa using hq)
        go_wp2_with fail
        go_round
        case rel => exact ⟨2, by omega, by go_num, Lib.hid (fun _ => hx.out (by omega)), Lib.hid (fun _ => hy2.out)⟩
        case measure => simp [intOf]
    · subst h
      have F : Hid ((orF x y) = 0) := Lib.hid (by unfold orF; rw [hx.out (by omega), hy.out (by omega)]; rfl)
      go_wp2_with fail
      go_ret
      exact ⟨ret_int F.out.symm, rfl⟩
set_option maxHeartbeats 400000 in
theorem compareWords_any (a b : ByteArray) (w : World) : Calls Tryz.prog 87 #[.string a, .string b] w fun e w' => e = .returned (.int .i64 (cfW a b)) ∧ ∃ o, w' = w.alloc o := by
  have H1 := Lib.hid (fun W => Tryz.cmp_Compare_int (a.size : Int) (b.size : Int) W)
  have H2 := Lib.hid (fun W => compareS_any a b W)
  have F : Hid (cfW a b = orF (Lib.compareInt (a.size : Int) (b.size : Int)) (cmpS a.toList b.toList)) := Lib.hid rfl
  generalize Lib.compareInt (a.size : Int) (b.size : Int) = x at *
  generalize cmpS a.toList b.toList = y at *
  have H3 : Hid (∀ W : World, Calls Tryz.prog 131 #[.slice (some ⟨W.heap.size, 0, none⟩) 2 2] (W.alloc (.cells #[.int .i64 x, .int .i64 y] 3)) fun e w' => e = .returned (.int .i64 (orF x y)) ∧ W.alloc (.cells #[.int .i64 x, .int .i64 y] 3) = w') := Lib.hid (fun W => orInt_any x y _ _ _ (by simp [World.cell?_alloc_new]) (by simp [World.cell?_alloc_new]))
  go_enter Tryz.func87, Tryz.ntmps87
  go_wp2_with (first | (go_at_call 132; refine (H1.out _).mono ?_; rintro e w' ⟨rfl, rfl⟩) | (go_at_call 133; refine (H2.out _).mono ?_; rintro e w' ⟨rfl, rfl⟩) | (go_at_call 131; refine (H3.out _).mono ?_; rintro e w' ⟨rfl, rfl⟩))
  go_ret
  exact ⟨ret_int F.out.symm, _, rfl⟩
end Go.Proofs.YtgoeadgpbidgiaaGreatDoor
namespace Go.Proofs.YtgoeadgpbidgiaaGreatDoor
open Go.RowKit
set_option linter.unusedVariables false
/-- WordOk as a function of plain data -/
def wordOkB (k : Int) (s : ByteArray) : Bool := inB k 1 4 && (decide (s.size ≤ 16) && allB (letB k) s)
theorem letB_low {k : Int} {c : UInt8} (h : (c.toNat : Int) < 97) : letB k c = false := by
  simp [letB, inB]; omega
theorem letB_high {k : Int} {c : UInt8} (h : 97 ≤ (c.toNat : Int)) (h2 : k ≤ (c.toNat : Int) - 97) : letB k c = false := by
  simp [letB, inB]; omega
theorem letB_true {k : Int} {c : UInt8} (h : letB k c = true) : 97 ≤ (c.toNat : Int) ∧ (c.toNat : Int) - 97 < k := by
  simp [letB, inB] at h; omega
theorem wordOk_notk {k : Int} {s : ByteArray} (h : inB k 1 4 = false) : wordOkB k s = false := by simp [wordOkB, h]
theorem wordOk_long {k : Int} {s : ByteArray} (h : 16 < s.size) : wordOkB k s = false := by
  simp [wordOkB, show ¬ s.size ≤ 16 by omega]
theorem wordOk_all {k : Int} {s : ByteArray} (h : inB k 1 4 = true) (h2 : s.size ≤ 16) : wordOkB k s = allB (letB k) s := by simp [wordOkB, h, h2]
set_option maxHeartbeats 400000 in
theorem specWordOk_any (k : Int) (s : ByteArray) (w : World) (hs : s.size ≤ maxLen) :
    Calls Tryz.prog 159 #[.int .i64 k, .string s] w fun e w' => e = .returned (.bool (wordOkB k s)) ∧ w = w' := by
  unfold maxLen at hs
  cases hk : inB k 1 4
  · have F := Lib.hid (wordOk_notk (s := s) hk)
    go_enter Tryz.func159, Tryz.ntmps159
    go_wp2_with (go_at_call 100; refine (l01In_any _ _ _ _).mono ?_; rintro e w' ⟨rfl, rfl⟩)
    go_ret
    exact ⟨ret_bool F.out.symm, rfl⟩
  by_cases hl : 16 < s.size
  · have F := Lib.hid (wordOk_long (k := k) hl)
    go_enter Tryz.func159, Tryz.ntmps159
    go_wp2_with (go_at_call 100; refine (l01In_any _ _ _ _).mono ?_; rintro e w' ⟨rfl, rfl⟩)
    go_ret
    exact ⟨ret_bool F.out.symm, rfl⟩
  have hl' : s.size ≤ 16 := by omega
  have G := Lib.hid (wordOk_all (s := s) hk hl')
  have ⟨hk1, hk2⟩ := inB_bounds hk
  go_enter Tryz.func159, Tryz.ntmps159
  go_wp2_with (go_at_call 100; refine (l01In_any _ _ _ _).mono ?_; rintro e w' ⟨rfl, rfl⟩)
  go_loop [5] (fun i => ∃ j : Nat, j ≤ s.size ∧ i = .int .i64 j ∧ allTo (letB k) s j = true) (fun i => s.size - (intOf i).toNat)
  case atStart => exact ⟨0, Nat.zero_le _, rfl, allTo_zero _ _⟩
  case round =>
    obtain ⟨j, hj, rfl, hall⟩ := hrel
    have H := Lib.hid hall
    clear hall
    by_cases hlt : j < s.size
    · have hb := byte_lt s[j]
      by_cases h1 : (s[j].toNat : Int) < 97
      · have F := Lib.hid (allB_at s (letB k) j hlt (letB_low h1))
        go_wp2
        go_ret
        exact ⟨ret_bool (by rw [G.out, F.out]), rfl⟩
      · by_cases h2 : k ≤ (s[j].toNat : Int) - 97
        · have F := Lib.hid (allB_at s (letB k) j hlt (letB_high (by omega) h2))
          go_wp2
          go_ret
          exact ⟨ret_bool (by rw [G.out, F.out]), rfl⟩
        · have F := Lib.hid (allTo_succ s (letB k) j hlt H.out (by simp [letB, inB]; omega))
          go_wp2
          go_round
          case rel => exact ⟨j + 1, by omega, by go_num, F.out⟩
          case measure => simp [intOf]; omega
    · have F := Lib.hid (allTo_full s (letB k) j hlt H.out)
      go_wp2
      go_ret
      exact ⟨ret_bool (by rw [G.out, F.out]), rfl⟩
/-- a byte of a pattern -/
def patB (c : UInt8) : Bool := isVarB c || letB 4 c
/-- PatternOk as a function of plain data -/
def patternOkB (s : ByteArray) : Bool := allB patB s && decide (s.size ≤ 8)
theorem one_list (s : ByteArray) (j : Nat) (h : j < s.size) : (s.extract j (j + 1)).data.toList = [s[j]] := by
  have : (s.extract j (j + 1)).data = s.data.extract j (j + 1) := by simp
  rw [this, Array.toList_extract, List.extract_eq_take_drop, show j + 1 - j = 1 by omega, List.take_one, List.head?_drop]
  rw [List.getElem?_eq_getElem (by simpa using h)]
  simp [ByteArray.getElem_eq_getElem_data]
theorem one_all (s : ByteArray) (p : UInt8 → Bool) (j : Nat) (h : j < s.size) : allB p (s.extract j (j + 1)) = p s[j] := by
  unfold allB; rw [one_list s j h]; simp
theorem one_size (s : ByteArray) (j : Nat) (h : j < s.size) : (s.extract j (j + 1)).size = 1 := by
  rw [← ByteArray.size_data, ← Array.length_toList, one_list s j h]; rfl
theorem one_wordOk (s : ByteArray) (j : Nat) (h : j < s.size) : wordOkB 4 (s.extract j (j + 1)) = letB 4 s[j] := by
  rw [wordOk_all (by decide) (by rw [one_size s j h]; omega), one_all s _ j h]
theorem patB_var {c : UInt8} (h : isVarB c = true) : patB c = true := by simp [patB, h]
theorem patB_let {c : UInt8} {b : Bool} (h : isVarB c = false) (h2 : letB 4 c = b) : patB c = b := by simp [patB, h, h2]
theorem patOk_all {s : ByteArray} (h : allB patB s = true) : decide ((s.size : Int) ≤ 8) = patternOkB s := by simp [patternOkB, h]; omega
theorem patOk_not {s : ByteArray} (h : allB patB s = false) : patternOkB s = false := by simp [patternOkB, h]
end Go.Proofs.YtgoeadgpbidgiaaGreatDoor
namespace Go.Proofs.YtgoeadgpbidgiaaGreatDoor
open Go.RowKit
set_option linter.unusedVariables false
set_option maxHeartbeats 400000 in
theorem implWordOk_any (k : Int) (s : ByteArray) (w : World) (hs : s.size ≤ maxLen) :
    Calls Tryz.prog 71 #[.int .i64 k, .string s] w fun e w' => e = .returned (.bool (wordOkB k s)) ∧ w = w' := by
  cases hk : inB k 1 4
  · have F := Lib.hid (wordOk_notk (s := s) hk)
    unfold maxLen at hs
    go_enter Tryz.func71, Tryz.ntmps71
    go_wp2_with (go_at_call 53; refine (within_any _ _ _ _).mono ?_; rintro e w' ⟨h2, rfl⟩; rw [hk] at h2; subst h2)
    go_ret
    exact ⟨ret_bool F.out.symm, rfl⟩
  have ⟨hk1, hk2⟩ := inB_bounds hk
  by_cases hl : 16 < s.size
  · have F := Lib.hid (wordOk_long (k := k) hl)
    unfold maxLen at hs
    go_enter Tryz.func71, Tryz.ntmps71
    go_wp2_with (go_at_call 53; refine (within_any _ _ _ _).mono ?_; rintro e w' ⟨h2, rfl⟩; rw [hk] at h2; subst h2)
    go_ret
    exact ⟨ret_bool F.out.symm, rfl⟩
  · have G := Lib.hid (wordOk_all (s := s) hk (by omega))
    have HS := Lib.hid hs
    unfold maxLen at hs
    go_enter Tryz.func71, Tryz.ntmps71
    go_wp2_with (first | (go_at_call 53; refine (within_any _ _ _ _).mono ?_; rintro e w' ⟨h2, rfl⟩; rw [hk] at h2; subst h2) | (go_at_call 117; refine (hasLetters_any _ _ _ HS.out (by omega) (by omega)).mono ?_; rintro e w' ⟨rfl, rfl⟩))
    go_ret
    exact ⟨ret_bool G.out.symm, rfl⟩
end Go.Proofs.YtgoeadgpbidgiaaGreatDoor
namespace Go.Proofs.YtgoeadgpbidgiaaGreatDoor
open Go.RowKit
set_option linter.unusedVariables false
def sideP (k : Int) (r : RulD) : Prop := (wordOkB k r.1 = true ∧ wordOkB k r.2 = true) ∧ r.1.size ≤ 8 ∧ r.2.size ≤ 8
def ruleP (k : Int) (r : RulD) : Prop := sideP k r ∧ r.1.size ≠ 0
def rulesP (k : Int) (R : List RulD) : Prop := ((1 ≤ k ∧ k ≤ 4) ∧ R.length ≤ 12) ∧ ∀ r ∈ R, ruleP k r
def sysP (k : Int) (R : List RulD) : Prop := rulesP k R ∧ ∀ r ∈ R, lessS r.2 r.1 = true
/-- what is asked of a system's rules so that they can be measured -/
def SzR (R : List RulD) : Prop := ∀ j, j < R.length → (nthR R j).1.size ≤ maxLen ∧ (nthR R j).2.size ≤ maxLen
theorem cfW_less (a b : ByteArray) : decide (cfW a b < 0) = lessS a b := by
  have h1 : (blW a).length = a.size := rfl
  have h2 : (blW b).length = b.size := rfl
  have h3 : a.toList = blW a := Lib.toList_data a
  have h4 : b.toList = blW b := Lib.toList_data b
  unfold cfW orF cmpS Lib.compareInt lessS ltW
  rw [h3, h4, ← h1, ← h2, bytesLess_eq]
  generalize blW a = x
  generalize blW b = y
  by_cases a1 : x.length < y.length
  · simp [a1]
  · by_cases a2 : y.length < x.length
    · have a3 : ¬ x.length = y.length := by omega
      simp [a1, a2, a3]
    · have a3 : x.length = y.length := by omega
      by_cases a4 : x < y
      · simp [a3, a4]
      · by_cases a5 : x = y
        · subst a5
          simp [List.lt_irrefl]
        · simp [a3, a4, a5]
set_option maxHeartbeats 400000 in
theorem implIsLess_any (u v : ByteArray) (w : World) :
    Calls Tryz.prog 43 #[.string u, .string v] w fun e w' => e = .returned (.bool (lessS u v)) ∧ Below w.heap.size w w' := by
  have F := Lib.hid (cfW_less u v)
  have HC := Lib.hid (fun W => compareWords_any u v W)
  generalize cfW u v = c at *
  go_enter Tryz.func43, Tryz.ntmps43
  go_wp2_with fail
  refine (HC.out _).mono ?_
  rintro e w' ⟨rfl, o, rfl⟩
  go_wp2_with fail
  go_ret
  exact ⟨ret_bool F.out, (Below.refl _ _).alloc (Nat.le_refl _) _⟩
/-- a function value that tells q of each rule, in every world that is as w below block B -/
def PredR (B : Nat) (g : Nat) (caps : Array Value) (q : RulD → Prop) (l : List RulD) (w : World) : Prop :=
  ∀ j, j < l.length → ∀ W, Below B w W → Calls Tryz.prog g (#[.agg #[.string (nthR l j).1, .string (nthR l j).2]] ++ caps) W (RetP (q (nthR l j)) W)
def RetIx (P : Prop) (w : World) (e : Ending) (w' : World) : Prop := ∃ i : Int, (0 ≤ i ↔ P) ∧ e = .returned (.int .i64 i) ∧ Below w.heap.size w w'
set_option maxHeartbeats 400000 in
theorem indexFuncR_any (g : Nat) (caps : Array Value) (q : RulD → Prop) (l : List RulD) (a : Option Addr) (cap : Nat) (w : World) (hl : RulesIn w a l) (hlen : l.length ≤ 2 ^ 40)
    (B : Nat) (hB : B ≤ w.heap.size) (hf : PredR B g caps q l w) (eg : ∀ args w, (callFunc g args).run Tryz.prog w = .ok (.enter g args) w) :
    Calls Tryz.prog 86 #[.slice a l.length cap, .func (.func g) #[] caps] w (RetIx (∃ r ∈ l, q r) w) := by
  have HF := Lib.hid hf
  have HL := Lib.hid hl
  clear hf hl
  go_enter Tryz.func86, Tryz.ntmps86
  go_wp2
  go_loopw [8] (fun i wr => ∃ j : Nat, j ≤ l.length ∧ i = .int .i64 j ∧ Hid (∀ j', j' < j → ¬ q (nthR l j')) ∧ Below w.heap.size w wr) (fun i _ => l.length - (intOf i).toNat)
  case atStart => exact ⟨0, Nat.zero_le _, rfl, Lib.hid (fun j' h => absurd h (Nat.not_lt_zero _)), Below.refl _ _⟩
  case round =>
    obtain ⟨j, hj, rfl, hno, hbel⟩ := hrel
    by_cases hlt : j < l.length
    · obtain ⟨b, off, rfl, hb, hc⟩ := (HL.out.later hbel).cell hlt
      obtain ⟨c1, c2⟩ := hc j hlt
      have HP := Lib.hid (HF.out j hlt _ (hbel.mono hB))
      have HY : Hid (q (nthR l j) → ∃ r ∈ l, q r) := Lib.hid (fun h => ⟨_, nthR_mem hlt, h⟩)
      have HN : Hid (¬ q (nthR l j) → ∀ j', j' < j + 1 → ¬ q (nthR l j')) := Lib.hid (fun h j' hj' => by
        by_cases e : j' = j
        · rw [e]; exact h
        · exact hno.out j' (by omega))
      clear hc
      generalize q (nthR l j) = qq at *
      generalize nthR l j = v at *
      go_wp2_with fail
      refine HP.out.mono ?_
      rintro e w2 ⟨bb, hbb, rfl, hb2⟩
      have HBB := Lib.hid hbb
      have HB2 := Lib.hid (Below.now hbel hb2)
      clear hbb hb2 HP
      cases bb
      · have F := Lib.hid (HN.out (fun h => by have := HBB.out.2 h; cases this))
        go_wp2_with fail
        go_roundw
        case rel => exact ⟨j + 1, by omega, by go_num, F, HB2.out⟩
        case measure => simp [intOf]; omega
      · have F : Hid (RetIx (∃ r ∈ l, q r) w (.returned (.int .i64 (j : Nat))) w2) := Lib.hid ⟨(j : Nat), ⟨fun _ => HY.out (HBB.out.1 rfl), fun _ => by omega⟩, rfl, HB2.out⟩
        go_wp2_with fail
        go_ret
        exact F.out
    · have F : Hid (RetIx (∃ r ∈ l, q r) w (.returned (.int .i64 (-1))) wr) := Lib.hid ⟨-1, ⟨fun h => by omega, fun ⟨r, h1, h2⟩ => by
        obtain ⟨i, hi, rfl⟩ := mem_nthR h1
        exact absurd h2 (hno.out i (by omega))⟩, rfl, hbel⟩
      go_wp2_with fail
      go_ret
      exact F.out
set_option maxHeartbeats 400000 in
theorem containsFuncR_any (g : Nat) (caps : Array Value) (q : RulD → Prop) (l : List RulD) (a : Option Addr) (cap : Nat) (w : World) (hl : RulesIn w a l) (hlen : l.length ≤ 2 ^ 40)
    (B : Nat) (hB : B ≤ w.heap.size) (hf : PredR B g caps q l w) (eg : ∀ args w, (callFunc g args).run Tryz.prog w = .ok (.enter g args) w) :
    Calls Tryz.prog 41 #[.slice a l.length cap, .func (.func g) #[] caps] w (RetP (∃ r ∈ l, q r) w) := by
  have HC := Lib.hid (indexFuncR_any g caps q l a cap w hl hlen B hB hf eg)
  clear hf eg hl
  go_enter Tryz.func41, Tryz.ntmps41
  go_wp2_with fail
  refine HC.out.mono ?_
  rintro e w2 ⟨i, hi, rfl, hb2⟩
  have F : Hid (RetP (∃ r ∈ l, q r) w (.returned (.bool (decide (0 ≤ i)))) w2) := Lib.hid ⟨decide (0 ≤ i), by rw [decide_eq_true_iff]; exact hi, rfl, hb2⟩
  clear hi hb2 HC
  go_wp2_with fail
  go_ret
  exact F.out
set_option maxHeartbeats 1000000 in
theorem specSidesOk_any (k : Int) (x y : ByteArray) (w : World) (hx : x.size ≤ maxLen) (hy : y.size ≤ maxLen) :
    Calls Tryz.prog 120 #[.int .i64 k, .agg #[.string x, .string y]] w (RetP (sideP k (x, y)) w) := by
  have HX := Lib.hid (fun W => specWordOk_any k x W hx)
  have HY := Lib.hid (fun W => specWordOk_any k y W hy)
  unfold maxLen at hx hy
  have HP : Hid (sideP k (x, y) ↔ (wordOkB k x = true ∧ wordOkB k y = true) ∧ x.size ≤ 8 ∧ y.size ≤ 8) := Lib.hid Iff.rfl
  have HA : Hid (∀ W, Below W.heap.size W (W.alloc (.cells #[.string x, .string y] 39))) := Lib.hid (fun W => (Below.refl _ _).alloc (Nat.le_refl _) _)
  generalize sideP k (x, y) = pp at *
  cases h1 : wordOkB k x
  · have F : Hid (RetP pp w (.returned (.bool false)) (w.alloc (.cells #[.string x, .string y] 39))) := Lib.hid (RetP.no (fun h => by have := (HP.out.1 h).1.1; rw [h1] at this; cases this) (HA.out _))
    rw [h1] at HX
    clear h1 HP
    go_enter Tryz.func120, Tryz.ntmps120
    go_wp2_with (go_at_call 159; refine (HX.out _).mono ?_; rintro e w' ⟨rfl, rfl⟩)
    go_ret
    exact F.out
  · cases h2 : wordOkB k y
    · have F : Hid (RetP pp w (.returned (.bool false)) (w.alloc (.cells #[.string x, .string y] 39))) := Lib.hid (RetP.no (fun h => by have := (HP.out.1 h).1.2; rw [h2] at this; cases this) (HA.out _))
      rw [h1] at HX
      rw [h2] at HY
      clear h1 h2 HP
      go_enter Tryz.func120, Tryz.ntmps120
      go_wp2_with fail
      refine (HX.out _).mono ?_
      rintro e w' ⟨rfl, rfl⟩
      go_wp2_with fail
      refine (HY.out _).mono ?_
      rintro e w' ⟨rfl, rfl⟩
      go_wp2_with fail
      go_ret
      exact F.out
    · by_cases h3 : x.size ≤ 8 ∧ y.size ≤ 8
      · have F : Hid (RetP pp w (.returned (.bool true)) (w.alloc (.cells #[.string x, .string y] 39))) := Lib.hid (RetP.yes (HP.out.2 ⟨⟨h1, h2⟩, h3⟩) (HA.out _))
        obtain ⟨h3, h4⟩ := h3
        rw [h1] at HX
        rw [h2] at HY
        clear h1 h2 HP
        have n1 : (x.size : Int) ≤ 8 := by omega
        have n2 : (y.size : Int) ≤ 8 := by omega
        go_enter Tryz.func120, Tryz.ntmps120
        go_wp2_with fail
        refine (HX.out _).mono ?_
        rintro e w' ⟨rfl, rfl⟩
        go_wp2_with fail
        refine (HY.out _).mono ?_
        rintro e w' ⟨rfl, rfl⟩
        go_wp2_with fail
        go_ret
        exact F.out
      · have F : Hid (RetP pp w (.returned (.bool false)) (w.alloc (.cells #[.string x, .string y] 39))) := Lib.hid (RetP.no (fun h => h3 (HP.out.1 h).2) (HA.out _))
        rw [h1] at HX
        rw [h2] at HY
        clear h1 h2 HP
        by_cases h4 : (x.size : Int) ≤ 8
        · have n2 : decide ((y.size : Int) ≤ 8) = false := decide_eq_false (by omega)
          go_enter Tryz.func120, Tryz.ntmps120
          go_wp2_with fail
          refine (HX.out _).mono ?_
          rintro e w' ⟨rfl, rfl⟩
          go_wp2_with fail
          refine (HY.out _).mono ?_
          rintro e w' ⟨rfl, rfl⟩
          go_wp2_with fail
          go_ret
          exact F.out
        · go_enter Tryz.func120, Tryz.ntmps120
          go_wp2_with fail
          refine (HX.out _).mono ?_
          rintro e w' ⟨rfl, rfl⟩
          go_wp2_with fail
          refine (HY.out _).mono ?_
          rintro e w' ⟨rfl, rfl⟩
          go_wp2_with fail
          go_ret
          exact F.out
set_option maxHeartbeats 1000000 in
theorem implSidesOk_any (k : Int) (x y : ByteArray) (w : World) (hx : x.size ≤ maxLen) (hy : y.size ≤ maxLen) :
    Calls Tryz.prog 85 #[.int .i64 k, .agg #[.string x, .string y]] w (RetP (sideP k (x, y)) w) := by
  have HX := Lib.hid (fun W => implWordOk_any k x W hx)
  have HY := Lib.hid (fun W => implWordOk_any k y W hy)
  unfold maxLen at hx hy
  have HP : Hid (sideP k (x, y) ↔ (wordOkB k x = true ∧ wordOkB k y = true) ∧ x.size ≤ 8 ∧ y.size ≤ 8) := Lib.hid Iff.rfl
  have HA : Hid (∀ W, Below W.heap.size W (W.alloc (.cells #[.string x, .string y] 39))) := Lib.hid (fun W => (Below.refl _ _).alloc (Nat.le_refl _) _)
  generalize sideP k (x, y) = pp at *
  cases h1 : wordOkB k x
  · have F : Hid (RetP pp w (.returned (.bool false)) (w.alloc (.cells #[.string x, .string y] 39))) := Lib.hid (RetP.no (fun h => by have := (HP.out.1 h).1.1; rw [h1] at this; cases this) (HA.out _))
    rw [h1] at HX
    clear h1 HP
    go_enter Tryz.func85, Tryz.ntmps85
    go_wp2_with (go_at_call 71; refine (HX.out _).mono ?_; rintro e w' ⟨rfl, rfl⟩)
    go_ret
    exact F.out
  · cases h2 : wordOkB k y
    · have F : Hid (RetP pp w (.returned (.bool false)) (w.alloc (.cells #[.string x, .string y] 39))) := Lib.hid (RetP.no (fun h => by have := (HP.out.1 h).1.2; rw [h2] at this; cases this) (HA.out _))
      rw [h1] at HX
      rw [h2] at HY
      clear h1 h2 HP
      go_enter Tryz.func85, Tryz.ntmps85
      go_wp2_with fail
      refine (HX.out _).mono ?_
      rintro e w' ⟨rfl, rfl⟩
      go_wp2_with fail
      refine (HY.out _).mono ?_
      rintro e w' ⟨rfl, rfl⟩
      go_wp2_with fail
      go_ret
      exact F.out
    · by_cases h3 : x.size ≤ 8 ∧ y.size ≤ 8
      · have F : Hid (RetP pp w (.returned (.bool true)) (w.alloc (.cells #[.string x, .string y] 39))) := Lib.hid (RetP.yes (HP.out.2 ⟨⟨h1, h2⟩, h3⟩) (HA.out _))
        obtain ⟨h3, h4⟩ := h3
        rw [h1] at HX
        rw [h2] at HY
        clear h1 h2 HP
        have n1 : (x.size : Int) ≤ 8 := by omega
        have n2 : (y.size : Int) ≤ 8 := by omega
        go_enter Tryz.func85, Tryz.ntmps85
        go_wp2_with fail
        refine (HX.out _).mono ?_
        rintro e w' ⟨rfl, rfl⟩
        go_wp2_with fail
        refine (HY.out _).mono ?_
        rintro e w' ⟨rfl, rfl⟩
        go_wp2_with fail
        go_ret
        exact F.out
      · have F : Hid (RetP pp w (.returned (.bool false)) (w.alloc (.cells #[.string x, .string y] 39))) := Lib.hid (RetP.no (fun h => h3 (HP.out.1 h).2) (HA.out _))
        rw [h1] at HX
        rw [h2] at HY
        clear h1 h2 HP
        by_cases h4 : (x.size : Int) ≤ 8
        · have n2 : decide ((y.size : Int) ≤ 8) = false := decide_eq_false (by omega)
          go_enter Tryz.func85, Tryz.ntmps85
          go_wp2_with fail
          refine (HX.out _).mono ?_
          rintro e w' ⟨rfl, rfl⟩
          go_wp2_with fail
          refine (HY.out _).mono ?_
          rintro e w' ⟨rfl, rfl⟩
          go_wp2_with fail
          go_ret
          exact F.out
        · go_enter Tryz.func85, Tryz.ntmps85
          go_wp2_with fail
          refine (HX.out _).mono ?_
          rintro e w' ⟨rfl, rfl⟩
          go_wp2_with fail
          refine (HY.out _).mono ?_
          rintro e w' ⟨rfl, rfl⟩
          go_wp2_with fail
          go_ret
          exact F.out
theorem size_zero0 {u : ByteArray} (h : u.size = 0) : u = ⟨#[]⟩ := by
  obtain ⟨⟨x⟩⟩ := u
  cases x with
  | nil => rfl
  | cons a t => simp [ByteArray.size] at h
theorem alloc_belowS (w : World) (o : Obj) : Below w.heap.size w (w.alloc o) := (Below.refl _ _).alloc (Nat.le_refl _) _
/-- the cells of a block that holds a system -/
theorem sys_cells {W : World} {g : Nat} {u v : Value} {T : TypeId} (h : W.heap[g]? = some (.cells #[u, v] T (0, 0))) : W.cell? ⟨g, 0, none⟩ = some u ∧ W.cell? ⟨g, 1, none⟩ = some v := by
  refine ⟨by simp [World.cell?, h], by simp [World.cell?, h]⟩
set_option maxRecDepth 20000 in
set_option maxHeartbeats 1000000 in
theorem specRulesOk_any (k : Int) (l : List RulD) (a : Option Addr) (cap : Nat) (w : World) (hl : RulesIn w a l) (hlen : l.length ≤ 2 ^ 40) (hz : SzR l) :
    Calls Tryz.prog 73 #[.agg #[.int .i64 k, .slice a l.length cap]] w (RetP (rulesP k l) w) := by
  have HL := Lib.hid hl
  have HZ := Lib.hid hz
  have P1 := Lib.hid (fun W => l01In_any k 1 4 W)
  clear hl hz
  cases hb : inB k 1 4
  · have F : Hid (¬ rulesP k l) := Lib.hid (fun h => by have := h.1.1; simp [inB] at hb; omega)
    rw [hb] at P1
    clear hb
    go_enter Tryz.func73, Tryz.ntmps73
    go_wp2_with (go_at_call 100; refine (P1.out _).mono ?_; rintro e w' ⟨rfl, rfl⟩)
    go_ret
    exact RetP.no F.out ((Below.refl _ _).alloc (Nat.le_refl _) _)
  · have hb2 := inB_bounds hb
    rw [hb] at P1
    clear hb
    by_cases h12 : l.length ≤ 12
    · have n1 : ¬ (12 : Int) < (l.length : Int) := by omega
      have HST : Hid (∀ W : World, Below W.heap.size W (W.alloc (.cells #[.int .i64 k, .slice a l.length cap] 33))) := Lib.hid (fun W => (Below.refl _ _).alloc (Nat.le_refl _) _)
      have HB0 : Hid ((w.alloc (.cells #[.int .i64 k, .slice a l.length cap] 33)).heap[w.heap.size]? = some (.cells #[.int .i64 k, .slice a l.length cap] 33 (0, 0))) := Lib.hid (alloc_at _ _)
      go_enter Tryz.func73, Tryz.ntmps73
      go_wp2_with (go_at_call 100; refine (P1.out _).mono ?_; rintro e w' ⟨rfl, rfl⟩)
      clear P1 n1
      go_loopw [18] (fun i wr => ∃ j : Nat, j ≤ l.length ∧ i = .int .i64 (j : Nat) ∧ Hid (∀ j', j' < j → ruleP k (nthR l j')) ∧ Below (w.alloc (.cells #[.int .i64 k, .slice a l.length cap] 33)).heap.size (w.alloc (.cells #[.int .i64 k, .slice a l.length cap] 33)) wr) (fun i _ => l.length - (intOf i).toNat)
      case atStart => exact ⟨0, Nat.zero_le _, rfl, Lib.hid (fun j' h => absurd h (Nat.not_lt_zero _)), Below.refl _ _⟩
      case round =>
        obtain ⟨j, hj, rfl, hall, hbw⟩ := hrel
        have hbw1 := Below.now (HST.out w) hbw
        have hs0 := hbw.size
        have hb0 := (hbw.block w.heap.size (by simp)).trans HB0.out
        obtain ⟨s0, s1⟩ := sys_cells hb0
        have s0a : ∀ o, (wr.alloc o).cell? ⟨w.heap.size, 0, none⟩ = some (.int .i64 k) := fun o => by rw [(alloc_belowS wr o).cell (World.block_lt_of_cell? wr _ s0)]; exact s0
        have HBW := Lib.hid hbw
        clear hb0
        by_cases hlt : j < l.length
        · obtain ⟨b, off, rfl, hb, hc⟩ := (HL.out.later hbw1).cell hlt
          obtain ⟨c1, c2⟩ := hc j hlt
          obtain ⟨z1, z2⟩ := HZ.out j hlt
          have HR : Hid (ruleP k (nthR l j) ↔ sideP k ((nthR l j).1, (nthR l j).2) ∧ (nthR l j).1.size ≠ 0) := Lib.hid Iff.rfl
          have HNO : Hid (¬ ruleP k (nthR l j) → ¬ rulesP k l) := Lib.hid (fun h h2 => h (h2.2 _ (nthR_mem hlt)))
          have HYE : Hid (ruleP k (nthR l j) → ∀ j', j' < j + 1 → ruleP k (nthR l j')) := Lib.hid (fun h j' hj' => by
            by_cases e : j' = j
            · rw [e]; exact h
            · exact hall.out j' (by omega))
          clear hc hbw
          generalize ruleP k (nthR l j) = pp at *
          generalize (nthR l j).1 = x at *
          generalize (nthR l j).2 = y at *
          have HSD := Lib.hid (fun W => specSidesOk_any k x y W z1 z2)
          generalize sideP k (x, y) = sp at *
          go_wp2_with fail
          refine (HSD.out _).mono ?_
          rintro e w2 ⟨bb, hbb, rfl, hb2⟩
          have HBB := Lib.hid hbb
          have hw1s : (wr.alloc (.cells #[.string x, .string y] 39)).heap.size = wr.heap.size + 1 := by simp
          have hcx : w2.cell? ⟨wr.heap.size, 0, none⟩ = some (.string x) := by rw [hb2.cell (by simp)]; simp [World.cell?_alloc_new]
          have HW2 : Hid (Below (w.alloc (.cells #[.int .i64 k, .slice (some ⟨b, off, none⟩) l.length cap] 33)).heap.size (w.alloc (.cells #[.int .i64 k, .slice (some ⟨b, off, none⟩) l.length cap] 33)) w2) := Lib.hid (Below.now (HBW.out.alloc HBW.out.size _) hb2)
          clear hbb hb2 HSD s0 s0a s1 c1 c2 hw1s
          cases bb
          · have F := Lib.hid (HNO.out (fun h => by have := HBB.out.2 (HR.out.1 h).1; cases this))
            go_wp2_with fail
            go_ret
            exact RetP.no F.out (Below.now (HST.out w) HW2.out)
          · by_cases h0 : x.size = 0
            · have F := Lib.hid (HNO.out (fun h => (HR.out.1 h).2 h0))
              have n1 : (x.toList == []) = true := by rw [size_zero0 h0, Lib.toList_data]; rfl
              have n3 : x.toList = [] := by rw [size_zero0 h0, Lib.toList_data]
              clear h0
              go_wp2_with fail
              go_ret
              exact RetP.no F.out (Below.now (HST.out w) HW2.out)
            · have F := Lib.hid (HYE.out (HR.out.2 ⟨HBB.out.1 rfl, h0⟩))
              have hne : x.toList ≠ [] := fun h => h0 (by
                have h2 : x.data.toList = [] := by rw [← Lib.toList_data]; exact h
                have h3 : x.data.toList.length = 0 := by rw [h2]; rfl
                exact h3)
              have n1 : (x.toList == []) = false := by rw [beq_eq_false_iff_ne]; exact hne
              have n3 : x.toList.isEmpty = false := by rw [List.isEmpty_eq_false_iff]; exact hne
              clear h0 hne
              go_wp2_with fail
              go_roundw
              case rel => exact ⟨j + 1, by omega, by go_num, F, HW2.out⟩
              case measure => simp [intOf]; omega
        · have F : Hid (rulesP k l) := Lib.hid ⟨⟨hb2, h12⟩, fun r hr => by
            obtain ⟨i, hi, rfl⟩ := mem_nthR hr
            exact hall.out i (by omega)⟩
          go_wp2_with fail
          go_ret
          exact RetP.yes F.out hbw1
    · have F : Hid (¬ rulesP k l) := Lib.hid (fun h => h12 h.1.2)
      have n1 : (12 : Int) < (l.length : Int) := by omega
      clear h12
      go_enter Tryz.func73, Tryz.ntmps73
      go_wp2_with (go_at_call 100; refine (P1.out _).mono ?_; rintro e w' ⟨rfl, rfl⟩)
      go_ret
      exact RetP.no F.out ((Below.refl _ _).alloc (Nat.le_refl _) _)
end Go.Proofs.YtgoeadgpbidgiaaGreatDoor
