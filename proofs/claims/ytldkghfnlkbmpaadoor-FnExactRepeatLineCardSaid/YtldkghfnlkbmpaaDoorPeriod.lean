/-
  Borders and periods, of the program and of the reference.
-/
import Derived.Test.YtldkghfnlkbmpaaDoorKmpT
import Derived.Test.YtldkghfnlkbmpaaDoorAppM
namespace Go.Proofs.YtldkghfnlkbmpaaDoor
open Go.RowKit
set_option linter.unusedVariables false
def lastN (xs : List Nat) : Nat := xs.getD (xs.length - 1) 0
/-- borders that a call hands back: the last one is the longest -/
def bordOk (l : List UInt8) (n : Nat) (xs : List Nat) : Prop := 1 ≤ xs.length ∧ xs.length ≤ 1000 ∧ isLb l n (lastN xs) ∧ ∀ j, j < xs.length → xs.getD j 0 ≤ n
def RetBord (l : List UInt8) (n : Nat) (w : World) (e : Ending) (w' : World) : Prop := ∃ xs : List Nat, bordOk l n xs ∧ RetSl 3 1 xs.length (natVals xs) w e w'
theorem last_cons {k : Nat} {xs : List Nat} (h : 1 ≤ xs.length) : lastN (k :: xs) = lastN xs := by
  unfold lastN
  rw [List.length_cons, show xs.length + 1 - 1 = (xs.length - 1) + 1 by omega]
  rfl
theorem Bld.one {w w0 : World} (x : Value) (T : TypeId) (h : Below w0.heap.size w0 w) : Bld T 1 w0 (w.alloc (.cells #[x] T)) (.slice (some ⟨w.heap.size, 0, none⟩) 1 1) 1 [x] :=
  ⟨owns_mono (World.ownsRow_lit (e := T) (size := 1) w #[x] 1 (Nat.le_refl _) (by unfold maxLen; omega) rfl) h.size, h.alloc h.size _⟩
/-- the chain of borders as it is laid in front -/
def chainOk (l : List UInt8) (n k : Nat) (xs : List Nat) : Prop := xs.length + k ≤ n ∧ k ≤ n ∧ (∀ j, j < xs.length → xs.getD j 0 ≤ n) ∧ ((xs = [] ∧ isLb l n k) ∨ (1 ≤ xs.length ∧ isLb l n (lastN xs)))
theorem chainOk_step {l : List UInt8} {n k m : Nat} {xs : List Nat} (h : chainOk l n k xs) (hm : m < k) : chainOk l n m (k :: xs) := by
  obtain ⟨a, b, c, d⟩ := h
  refine ⟨by rw [List.length_cons]; omega, by omega, fun j hj => ?_, .inr ⟨by simp, ?_⟩⟩
  · cases j with
    | zero => exact b
    | succ j => exact c j (by rw [List.length_cons] at hj; omega)
  · rcases d with ⟨rfl, e⟩ | ⟨e1, e2⟩
    · exact e
    · rw [last_cons e1]; exact e2
theorem chainOk_done {l : List UInt8} {n : Nat} {xs : List Nat} (h : chainOk l n 0 xs) (hn : n ≤ 400) : bordOk l n (0 :: xs) := by
  obtain ⟨a, b, c, d⟩ := h
  refine ⟨by simp, by rw [List.length_cons]; omega, ?_, fun j hj => ?_⟩
  · rcases d with ⟨rfl, e⟩ | ⟨e1, e2⟩
    · exact e
    · rw [last_cons e1]; exact e2
  · cases j with
    | zero => exact Nat.zero_le _
    | succ j => exact c j (by rw [List.length_cons] at hj; omega)
theorem one_vals {xs : List Nat} : ∀ u ∈ natVals xs, u.oneCell' = true := fun u hu => by
  obtain ⟨k, _, rfl⟩ := List.mem_map.1 hu
  simp [Value.oneCell']
set_option maxRecDepth 20000 in
set_option maxHeartbeats 4000000 in
theorem specBordersOf_any (s : ByteArray) (w : World) (hok : longOkB 4 s = true) (hne : 1 ≤ s.size) :
    Calls Tryd.prog 59 #[.string s] w (RetBord (bl s) s.size w) := by
  have hsz := longOk_size hok
  have HLO : Hid (∀ W, Calls Tryd.prog 39 #[.string s] W fun e w' => e = .returned (.bool true) ∧ W = w') := Lib.hid (fun W => by
    have HL := Lib.hid (fun W => specLongOk_any 4 s W (by unfold maxLen; omega))
    rw [hok] at HL
    go_enter Tryd.func39, Tryd.ntmps39
    go_wp2_with fail
    refine (HL.out _).mono ?_
    rintro e w' ⟨rfl, rfl⟩
    go_wp2_with fail
    go_ret
    exact ⟨rfl, rfl⟩)
  have HT := Lib.hid (fun W => l21Table_any s W hsz)
  have hs0 : (s.toList == ([] : List UInt8)) = false := by
    rw [ByteArray.toList_eq]
    cases h : s.data.toList with
    | nil =>
      have : s.data.toList.length = 0 := by rw [h]; rfl
      rw [Array.length_toList, ByteArray.size_data] at this; omega
    | cons => rfl
  have hs1 : s.toList ≠ ([] : List UInt8) := by
    intro h; rw [h] at hs0; cases hs0
  clear hok
  go_enter Tryd.func59, Tryd.ntmps59
  go_wp2_with (go_at_call 39; refine (HLO.out _).mono ?_; rintro e w' ⟨rfl, rfl⟩)
  refine (HT.out _).mono ?_
  rintro e w2 ⟨T, ⟨hTl, hTo⟩, a, c, rfl, hoT, hb2⟩
  have HO := Lib.hid hoT
  have HTo := Lib.hid hTo
  have HTl := Lib.hid hTl
  have B2 := Lib.hid hb2
  obtain ⟨b, rfl, hc⟩ := natCell hoT (j := s.size - 1) (by omega)
  have hlb := hTo (s.size - 1) (by omega)
  rw [show s.size - 1 + 1 = s.size by omega] at hlb
  have hkn : T.getD (s.size - 1) 0 < s.size := hlb.1.1
  have HLB := Lib.hid hlb
  clear hoT hTo hTl hb2 hlb HT
  generalize T.getD (s.size - 1) 0 = k0 at *
  have hi1 : (s.size : Int) - 1 = ((s.size - 1 : Nat) : Int) := by omega
  have hi2 : ((s.size - 1 : Nat) : Int) < (s.size : Int) := by omega
  have hi3 : s.size - 1 < s.size := by omega
  have HBlt : Hid (b < w2.heap.size) := Lib.hid (World.block_lt_of_cell? w2 _ hc)
  have hce : (w2.alloc (.cells #[] 3)).cell? ⟨b, s.size - 1, none⟩ = some (.int .i64 (k0 : Int)) := by
    rw [((Below.refl w2.heap.size w2).alloc (Nat.le_refl _) (.cells #[] 3)).cell HBlt.out]; exact hc
  have HS : Hid (Bld 3 1 w (w2.alloc (.cells #[] 3)) (.slice (some ⟨w2.heap.size, 0, none⟩) 0 0) 0 (natVals [])) := Lib.hid ((Bld.empty 3 1 w2).since B2.out)
  have HOA := Lib.hid (owns_later HO.out ((Below.refl w2.heap.size w2).alloc (Nat.le_refl _) (.cells #[] 3)))
  have HB0 : Hid (Below w2.heap.size w2 (w2.alloc (.cells #[] 3))) := Lib.hid ((Below.refl _ _).alloc (Nat.le_refl _) _)
  go_wp2_with fail
  go_loopw [4, 5] (fun o k wr => ∃ (kn : Nat) (xs : List Nat), k = .int .i64 ((kn : Nat) : Int) ∧ kn < s.size ∧ Hid (chainOk (bl s) s.size kn xs) ∧ Bld 3 1 w wr o xs.length (natVals xs) ∧ Below w2.heap.size w2 wr) (fun _ k _ => (intOf k).toNat)
  case atStart => exact ⟨k0, [], rfl, hkn, Lib.hid ⟨by simp; omega, by omega, fun j hj => absurd hj (by simp), .inl ⟨rfl, HLB.out⟩⟩, HS.out, HB0.out⟩
  case round =>
    clear HS HOA HB0 hce hc
    obtain ⟨kn, xs, rfl, hk, HC, hbd, hb2w⟩ := hrel
    obtain ⟨a3, c3, rfl⟩ := owns_form hbd.1
    have HB := Lib.hid hbd
    have HW := Lib.hid hb2w
    have hxl : xs.length ≤ 400 := by have := HC.out.1; omega
    clear hbd hb2w
    by_cases h0 : 0 < kn
    · have p0 : (0 : Int) < (kn : Int) := by omega
      have hTl := HTl.out
      have hlb := HTo.out (kn - 1) (by omega)
      rw [show kn - 1 + 1 = kn by omega] at hlb
      have hm : T.getD (kn - 1) 0 < kn := hlb.1.1
      clear hlb
      have F := Lib.hid (chainOk_step HC.out hm)
      have H1 := Lib.hid (Bld.one (.int .i64 (kn : Int)) 3 HB.out.2)
      have S1 := Lib.hid ((Src.of_owns HB.out.1).later ((Below.refl wr.heap.size wr).alloc (Nat.le_refl _) (.cells #[.int .i64 (kn : Int)] 3)))
      have N1 : Hid ((natVals xs).length = xs.length * 1) := Lib.hid (by rw [natVals_len, Nat.mul_one])
      have N2 := Lib.hid (one_vals (xs := xs))
      have hj3 : (kn : Int) - 1 = ((kn - 1 : Nat) : Int) := by omega
      have hj4 : ((kn - 1 : Nat) : Int) < (s.size : Int) := by omega
      have hj5 : kn - 1 < s.size := by omega
      have hcell : kn - 1 < T.length := by omega
      have HCL := Lib.hid hcell
      clear hTl hcell
      generalize hmm : T.getD (kn - 1) 0 = m at *
      have HMM := Lib.hid hmm
      clear hmm
      go_wp2_with (at_builtin; refine wpList_appM rfl (.tmp 30) (.tmp 31) rfl Tryd.underlying22 Tryd.infoInt rfl (by decide) rfl H1.out rfl S1.out N1.out N2.out ?a2 ?a3 ?a4)
      case a2 => unfold maxLen; omega
      case a3 => omega
      intro v4 w4 hb4 hg4 ho4
      have F4 : Hid (Bld 3 1 w w4 v4 (kn :: xs).length (natVals (kn :: xs))) := Lib.hid (by
        rw [List.length_cons, Nat.add_comm]; exact hb4)
      have W4 : Hid (Below w2.heap.size w2 w4) := Lib.hid ((HW.out.alloc HW.out.size _).grown hg4 (by have := HW.out.size; simp; omega) (fun k hk => by have he : wr.heap.size = k := Option.some.inj hk; have := HW.out.size; omega))
      clear hb4 hg4 ho4 S1 H1 N1 N2
      have HOr := Lib.hid (owns_later HO.out W4.out)
      obtain ⟨b', hbb, hc⟩ := natCell HOr.out (j := kn - 1) HCL.out
      obtain rfl : b = b' := by simpa using hbb
      rw [HMM.out] at hc
      clear hbb HOr
      go_wp2_with fail
      go_roundw
      case rel => exact ⟨m, kn :: xs, rfl, by omega, F, F4.out, W4.out⟩
      case measure => simp [intOf]; omega
    · obtain rfl : kn = 0 := by omega
      have p0 : ¬ (0 : Int) < 0 := by omega
      have F := Lib.hid (chainOk_done HC.out hsz)
      have H1 := Lib.hid (Bld.one (.int .i64 0) 3 HB.out.2)
      have S1 := Lib.hid ((Src.of_owns HB.out.1).later ((Below.refl wr.heap.size wr).alloc (Nat.le_refl _) (.cells #[.int .i64 0] 3)))
      have N1 : Hid ((natVals xs).length = xs.length * 1) := Lib.hid (by rw [natVals_len, Nat.mul_one])
      have N2 := Lib.hid (one_vals (xs := xs))
      go_wp2_with (at_builtin; refine wpList_appM rfl (.tmp 33) (.tmp 34) rfl Tryd.underlying22 Tryd.infoInt rfl (by decide) rfl H1.out rfl S1.out N1.out N2.out ?b2 ?b3 ?b4)
      case b2 => unfold maxLen; omega
      case b3 => omega
      intro v4 w4 hb4 hg4 ho4
      have F4 : Hid (Bld 3 1 w w4 v4 (0 :: xs).length (natVals (0 :: xs))) := Lib.hid (by
        rw [List.length_cons, Nat.add_comm]; exact hb4)
      have F5 : Hid (RetBord (bl s) s.size w (.returned v4) w4) := Lib.hid ⟨0 :: xs, F.out, F4.out.ret⟩
      obtain ⟨a5, c5, hv5⟩ := owns_form F4.out.1
      clear hb4 hg4 ho4 S1 H1 N1 N2
      subst hv5
      go_wp2_with fail
      go_ret
      exact F5.out
end Go.Proofs.YtldkghfnlkbmpaaDoor
