/-
  The program's order of words (compareWords).
-/
import Derived.Test.YtdpfgdckgchpdaaGreatDoorGrp05
import Derived.Test.YtdpfgdckgchpdaaGreatDoorGrp06
import Derived.Test.YtdpfgdckgchpdaaGreatDoorGrp07
import Derived.Test.YtdpfgdckgchpdaaGreatDoorGrp02
import Derived.Sort.OwnSorted
namespace Go.Proofs.YtdpfgdckgchpdaaGreatDoor
open Go.RowKit
set_option linter.unusedVariables false
/-- the bytes of a word -/
def blW (s : ByteArray) : List UInt8 := s.data.toList
def blsW (l : List ByteArray) : List (List UInt8) := l.map blW
theorem blW_inj {a b : ByteArray} (h : blW a = blW b) : a = b := by
  obtain ⟨⟨x⟩⟩ := a
  obtain ⟨⟨y⟩⟩ := b
  have : x = y := h
  rw [this]
theorem blsW_mem {u : ByteArray} {l : List ByteArray} : blW u ∈ blsW l ↔ u ∈ l := by
  unfold blsW
  rw [List.mem_map]
  constructor
  · rintro ⟨x, hx, he⟩; rw [← blW_inj he]; exact hx
  · intro h; exact ⟨u, h, rfl⟩
theorem blsW_len (l : List ByteArray) : (blsW l).length = l.length := by simp [blsW]
theorem blsW_nth {l : List ByteArray} {i : Nat} (h : i < l.length) : (blsW l)[i]'(by rw [blsW_len]; exact h) = blW (nthS l i) := by rw [nthS_lt h]; simp [blsW]
/-- the order of words -/
def lessS (a b : ByteArray) : Bool := ltW (blW a) (blW b)
/-- strictly sorted -/
def SortedS (l : List ByteArray) : Prop := SortedW (blsW l)
theorem SortedS.ext {x y : List ByteArray} (hx : SortedS x) (hy : SortedS y) (h : ∀ u, u ∈ x ↔ u ∈ y) : x = y := by
  have key : ∀ {x y : List ByteArray}, (∀ u, u ∈ x ↔ u ∈ y) → ∀ u, u ∈ blsW x → u ∈ blsW y := fun h u hu => by
    obtain ⟨v, hv, rfl⟩ := List.mem_map.1 hu
    exact blsW_mem.2 ((h v).1 hv)
  have h1 := SortedW.ext hx hy (fun u => ⟨key h u, key (fun u => (h u).symm) u⟩)
  exact (List.map_inj_right (fun a b => blW_inj)).1 h1
theorem nodup_bls {x : List ByteArray} (h : (blsW x).Nodup) : x.Nodup := by
  unfold blsW at h
  unfold List.Nodup at *
  rw [List.pairwise_map] at h
  exact h.imp (fun h e => h (by rw [e]))
theorem SortedS.nodup {x : List ByteArray} (hx : SortedS x) : x.Nodup := nodup_bls (SortedW.nodup hx)
theorem SortedS.nil : SortedS [] := List.Pairwise.nil
theorem lessS_same {u v : ByteArray} (h : u.size = v.size) : lessS u v = Op.bytesLess u.toList v.toList := by
  have h1 : (blW u).length = (blW v).length := h
  unfold lessS ltW
  rw [bytesLess_eq, Lib.toList_data, Lib.toList_data]
  unfold blW at *
  simp [h1]
theorem lessS_other {u v : ByteArray} (h : ¬ u.size = v.size) : lessS u v = decide (u.size < v.size) := by
  have h1 : ¬ (blW u).length = (blW v).length := h
  have h2 : (blW u).length = u.size := rfl
  have h3 : (blW v).length = v.size := rfl
  unfold lessS ltW
  simp [h1]
  rw [h2, h3]
set_option maxHeartbeats 400000 in
theorem specIsLess_any (u v : ByteArray) (w : World) (hu : u.size ≤ maxLen) (hv : v.size ≤ maxLen) :
    Calls Tryz.prog 98 #[.string u, .string v] w fun e w' => e = .returned (.bool (lessS u v)) ∧ w = w' := by
  unfold maxLen at hu hv
  by_cases h : u.size = v.size
  · have F := Lib.hid (lessS_same h)
    have h1 : ((u.size : Int) == (v.size : Int)) = true := by simp [h]
    have h2 : ((u.size : Int) != (v.size : Int)) = false := by simp [h]
    clear h
    go_enter Tryz.func98, Tryz.ntmps98
    go_wp2_with fail
    go_ret
    exact ⟨ret_bool F.out.symm, rfl⟩
  · have F := Lib.hid (lessS_other h)
    have h1 : ((u.size : Int) == (v.size : Int)) = false := by rw [beq_eq_false_iff_ne]; omega
    have h2 : ((u.size : Int) != (v.size : Int)) = true := by rw [bne_iff_ne]; omega
    go_enter Tryz.func98, Tryz.ntmps98
    go_wp2_with fail
    go_ret
    exact ⟨ret_bool F.out.symm, rfl⟩
/-- a word comes to its place -/
def insS (x : ByteArray) (q : List ByteArray) (k : Nat) : List ByteArray := q.take k ++ [x] ++ q.drop k
theorem insS_bls (x : ByteArray) (q : List ByteArray) (k : Nat) : blsW (insS x q k) = insK (blW x) (blsW q) k := by
  unfold insS insK blsW
  rw [List.map_append, List.map_append, List.map_take, List.map_drop]; rfl
theorem insS_mem {x : ByteArray} {q : List ByteArray} {k : Nat} (u : ByteArray) : u ∈ insS x q k ↔ u ∈ q ∨ u = x := by
  rw [← blsW_mem, insS_bls, insK_mem, blsW_mem]
  exact ⟨fun h => h.imp id blW_inj, fun h => h.imp id (fun e => by rw [e])⟩
theorem insS_len {x : ByteArray} {q : List ByteArray} {k : Nat} (hk : k ≤ q.length) : (insS x q k).length = q.length + 1 := by
  have h := insK_len (w := blW x) (l := blsW q) (k := k) (by rw [blsW_len]; exact hk)
  rwa [← insS_bls, blsW_len, blsW_len] at h
theorem insS_sorted {x : ByteArray} {q : List ByteArray} {k : Nat} (hq : SortedS q) (hx : ¬ x ∈ q) (hk : k ≤ q.length) (hlo : ∀ i, i < k → lessS (nthS q i) x = true) (hhi : k < q.length → lessS (nthS q k) x = false) : SortedS (insS x q k) := by
  unfold SortedS
  rw [insS_bls]
  refine insK_sorted hq (fun h => hx (blsW_mem.1 h)) (by rw [blsW_len]; exact hk) (fun i h hi => ?_) (fun h => ?_)
  · rw [blsW_len] at h; rw [blsW_nth h]; exact hlo i hi
  · rw [blsW_len] at h; rw [blsW_nth h]; exact hhi h
/-- what a call hands back: the sorted set of the words that have a property -/
def RetSet (P : ByteArray → Prop) (w : World) (e : Ending) (w' : World) : Prop := ∃ q, SortedS q ∧ (∀ u, u ∈ q ↔ P u) ∧ RetSl 9 1 q.length (strVals q) w e w'
theorem owns_cap {w : World} {base : Nat} {T : TypeId} {size n m cap : Nat} {a : Option Addr} {xs : List Value} (h : w.ownsRow base T size (.slice a m cap) n xs) : n ≤ cap ∧ cap ≤ maxLen := by
  rcases h.2 with ⟨hv, h0⟩ | ⟨g, cap', cur, hv, hb, hg, hn, hc, hs, ht⟩
  · cases hv; exact ⟨by omega, by unfold maxLen; omega⟩
  · cases hv; exact ⟨hn, hc⟩
theorem owns_someS {w : World} {base : Nat} {T : TypeId} {v : Value} {n : Nat} {xs : List Value} (h : w.ownsRow base T 1 v n xs) (h0 : 0 < n) : ∃ g cap, v = .slice (some ⟨g, 0, none⟩) n cap := by
  rcases h.2 with ⟨hv, h1⟩ | ⟨g, cap', cur, hv, _⟩
  · omega
  · exact ⟨g, cap', hv⟩
/-- the state of the sort: the first j have come to their places -/
def StSort (xs : List ByteArray) (w : World) (v : Value) (j : Nat) (wr : World) : Prop := ∃ q g cap, v = .slice (some ⟨g, 0, none⟩) q.length cap ∧ SortedS q ∧ (∀ u, u ∈ q ↔ u ∈ xs.take j) ∧ q.length = j ∧ Bld 9 1 w wr v q.length (strVals q)
theorem strVals_one (l : List ByteArray) : ∀ u ∈ strVals l, u.oneCell' = true := fun u hu => by
  obtain ⟨x, _, rfl⟩ := List.mem_map.1 hu; rfl
theorem take_mem {l : List ByteArray} {j : Nat} (h : j < l.length) (u : ByteArray) : u ∈ l.take (j + 1) ↔ u ∈ l.take j ∨ u = nthS l j := by
  rw [List.take_succ_eq_append_getElem h, List.mem_append, List.mem_singleton, nthS_lt h]
theorem nodup_take {l : List ByteArray} (hn : l.Nodup) {j : Nat} (h : j < l.length) : ¬ nthS l j ∈ l.take j := fun hm => by
  rw [nthS_lt h] at hm
  obtain ⟨i, hi, he⟩ := List.getElem_of_mem hm
  rw [List.length_take] at hi
  rw [List.getElem_take] at he
  exact (List.pairwise_iff_getElem.1 hn) i j (by omega) h (by omega) he
end Go.Proofs.YtdpfgdckgchpdaaGreatDoor
namespace Go.Proofs.YtdpfgdckgchpdaaGreatDoor
open Go.RowKit Go.Sort
set_option linter.unusedVariables false
/-- cmp.Compare at strings -/
def cmpS (a b : List UInt8) : Int := if Op.bytesLess a b = true then -1 else if (a == b) = true then 0 else 1
/-- cmp.Or at two integers -/
def orF (x y : Int) : Int := if (x == 0) = true then y else x
/-- compareWords -/
def cfW (a b : ByteArray) : Int := orF (Lib.compareInt (a.size : Int) (b.size : Int)) (cmpS a.toList b.toList)
set_option maxHeartbeats 400000 in
theorem isNaNS_any (a : ByteArray) (w : World) : Calls Tryz.prog 189 #[.string a] w fun e w' => e = .returned (.bool false) ∧ w = w' := by
  go_enter Tryz.func189, Tryz.ntmps189
  go_wp2_with fail
  go_ret
  exact ⟨rfl, rfl⟩
set_option maxHeartbeats 400000 in
theorem compareS_any (a b : ByteArray) (w : World) : Calls Tryz.prog 163 #[.string a, .string b] w fun e w' => e = .returned (.int .i64 (cmpS a.toList b.toList)) ∧ w = w' := by
  cases h1 : Op.bytesLess a.toList b.toList
  · cases h2 : (a.toList == b.toList)
    · have F : Hid (cmpS a.toList b.toList = 1) := Lib.hid (by unfold cmpS; rw [h1, h2]; rfl)
      go_enter Tryz.func163, Tryz.ntmps163
      go_wp2_with (go_at_call 189; refine (isNaNS_any _ _).mono ?_; rintro e w' ⟨rfl, rfl⟩)
      go_ret
      exact ⟨ret_int F.out.symm, rfl⟩
    · have F : Hid (cmpS a.toList b.toList = 0) := Lib.hid (by unfold cmpS; rw [h1, h2]; rfl)
      go_enter Tryz.func163, Tryz.ntmps163
      go_wp2_with (go_at_call 189; refine (isNaNS_any _ _).mono ?_; rintro e w' ⟨rfl, rfl⟩)
      go_ret
      exact ⟨ret_int F.out.symm, rfl⟩
  · have F : Hid (cmpS a.toList b.toList = -1) := Lib.hid (by unfold cmpS; rw [h1]; rfl)
    go_enter Tryz.func163, Tryz.ntmps163
    go_wp2_with (go_at_call 189; refine (isNaNS_any _ _).mono ?_; rintro e w' ⟨rfl, rfl⟩)
    go_ret
    exact ⟨ret_int F.out.symm, rfl⟩
set_option maxHeartbeats 400000 in
theorem orInt_any (x y : Int) (b cap : Nat) (w : World) (h0 : w.cell? ⟨b, 0, none⟩ = some (.int .i64 x)) (h1 : w.cell? ⟨b, 1, none⟩ = some (.int .i64 y)) :
    Calls Tryz.prog 161 #[.slice (some ⟨b, 0, none⟩) 2 cap] w fun e w' => e = .returned (.int .i64 (orF x y)) ∧ w = w' := by
  go_enter Tryz.func161, Tryz.ntmps161
  go_wp2_with fail
  go_loop [8] (fun i => ∃ j : Nat, j ≤ 2 ∧ i = .int .i64 (j : Nat) ∧ Hid (0 < j → x = 0) ∧ Hid (1 < j → y = 0)) (fun i => 2 - (intOf i).toNat)
  case atStart => exact ⟨0, Nat.zero_le _, rfl, Lib.hid (by omega), Lib.hid (by omega)⟩
  case round =>
    obtain ⟨j, hj, rfl, hx, hy⟩ := hrel
    rcases (show j = 0 ∨ j = 1 ∨ j = 2 by omega) with h | h | h
    · subst h
      cases hq : (x == 0)
      · have hn : (x != 0) = true := by rw [bne, hq]; rfl
        have F : Hid (orF x y = x) := Lib.hid (by unfold orF; rw [hq]; rfl)
        go_wp2_with fail
        go_ret
        exact ⟨ret_int F.out.symm, rfl⟩
      · have hn : (x != 0) = false := by rw [bne, hq]; rfl
        have hx2 : Hid (x = 0) := Lib.hid (by simpa using hq)
        go_wp2_with fail
        go_round
        case rel => exact ⟨1, by omega, by go_num, Lib.hid (fun _ => hx2.out), Lib.hid (by omega)⟩
        case measure => simp [intOf]
    · subst h
      have hx2 : Hid (orF x y = y) := Lib.hid (by unfold orF; rw [hx.out (by omega)]; rfl)
      cases hq : (y == 0)
      · have hn : (y != 0) = true := by rw [bne, hq]; rfl
        go_wp2_with fail
        go_ret
        exact ⟨ret_int hx2.out.symm, rfl⟩
      · have hn : (y != 0) = false := by rw [bne, hq]; rfl
        have hy2 : Hid (y = 0) := Lib.hid (by simpa using hq)
        go_wp2_with fail
        go_round
        case rel => exact ⟨2, by omega, by go_num, Lib.hid (fun _ => hx.out (by omega)), Lib.hid (fun _ => hy2.out)⟩
        case measure => simp [intOf]
    · subst h
      have F : Hid ((orF x y) = 0) := Lib.hid (by unfold orF; rw [hx.out (by omega), hy.out (by omega)]; rfl)
      go_wp2_with fail
      go_ret
      exact ⟨ret_int F.out.symm, rfl⟩
set_option maxHeartbeats 400000 in
theorem compareWords_any (a b : ByteArray) (w : World) : Calls Tryz.prog 129 #[.string a, .string b] w fun e w' => e = .returned (.int .i64 (cfW a b)) ∧ ∃ o, w' = w.alloc o := by
  have H1 := Lib.hid (fun W => Tryz.cmp_Compare_int (a.size : Int) (b.size : Int) W)
  have H2 := Lib.hid (fun W => compareS_any a b W)
  have F : Hid (cfW a b = orF (Lib.compareInt (a.size : Int) (b.size : Int)) (cmpS a.toList b.toList)) := Lib.hid rfl
  generalize Lib.compareInt (a.size : Int) (b.size : Int) = x at *
  generalize cmpS a.toList b.toList = y at *
  have H3 : Hid (∀ W : World, Calls Tryz.prog 161 #[.slice (some ⟨W.heap.size, 0, none⟩) 2 2] (W.alloc (.cells #[.int .i64 x, .int .i64 y] 3)) fun e w' => e = .returned (.int .i64 (orF x y)) ∧ W.alloc (.cells #[.int .i64 x, .int .i64 y] 3) = w') := Lib.hid (fun W => orInt_any x y _ _ _ (by simp [World.cell?_alloc_new]) (by simp [World.cell?_alloc_new]))
  go_enter Tryz.func129, Tryz.ntmps129
  go_wp2_with (first | (go_at_call 162; refine (H1.out _).mono ?_; rintro e w' ⟨rfl, rfl⟩) | (go_at_call 163; refine (H2.out _).mono ?_; rintro e w' ⟨rfl, rfl⟩) | (go_at_call 161; refine (H3.out _).mono ?_; rintro e w' ⟨rfl, rfl⟩))
  go_ret
  exact ⟨ret_int F.out.symm, _, rfl⟩
end Go.Proofs.YtdpfgdckgchpdaaGreatDoor
