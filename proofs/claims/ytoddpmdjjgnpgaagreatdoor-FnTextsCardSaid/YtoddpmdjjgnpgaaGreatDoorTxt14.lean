/-
  ParseTag of the reference, coarsely: some tag system in memory..
-/
import Derived.Test.YtoddpmdjjgnpgaaGreatDoorTxt13
import Derived.Lib.Split
import Derived.Test.YtoddpmdjjgnpgaaGreatDoorTxt10
import Derived.Test.YtoddpmdjjgnpgaaGreatDoorTxt05
import Derived.Test.YtoddpmdjjgnpgaaGreatDoorTxt09
namespace Go.Proofs.YtoddpmdjjgnpgaaGreatDoor
open Go.RowKit
set_option linter.unusedVariables false
theorem indexB_one (s : ByteArray) (c : UInt8) : Lib.indexB s ⟨#[c]⟩ = Lib.indexByte s.data.toList c := by
  show Lib.index _ _ = _
  exact Lib.index_one _ _
theorem split_lib (c : UInt8) : ∀ (m : Nat) (s : ByteArray), s.size ≤ m → Lib.splitB ⟨#[c]⟩ 0 (Lib.countB s ⟨#[c]⟩) s = splitB s c := fun m => by
  have hz : (⟨#[c]⟩ : ByteArray).size = 1 := rfl
  induction m with
  | zero =>
    intro s hs
    rcases split_next s c with ⟨h1, h2⟩ | ⟨i, h1, h2, h3⟩
    · rw [Lib.splitB_miss _ _ _ _ ((indexB_one s c).trans h1), h2]
    · omega
  | succ m ih =>
    intro s hs
    rcases split_next s c with ⟨h1, h2⟩ | ⟨i, h1, h2, h3⟩
    · rw [Lib.splitB_miss _ _ _ _ ((indexB_one s c).trans h1), h2]
    · have e := (indexB_one s c).trans h1
      rw [Lib.countB_hit _ _ i (by rw [hz]; exact Nat.le_refl _) e, Nat.add_comm 1, Lib.splitB_hit _ _ _ _ i e, h3, hz, ih _ (by rw [ByteArray.size_extract]; omega)]
      rfl
theorem count_lib (s : ByteArray) (c : UInt8) : Lib.countB s ⟨#[c]⟩ + 1 = (splitB s c).length := by
  rw [← split_lib c s.size s (Nat.le_refl _)]
  exact (Lib.splitB_all ⟨#[c]⟩ (Nat.le_refl 1) 0 _ s rfl).symm
/-- the library's number of bytes up to which a search is made by hand -/
def MaxG (w : World) : Prop := ∃ m : Int, w.cell? ⟨0, 0, none⟩ = some (.int .i64 m)
theorem MaxG.later {w w' : World} (h : MaxG w) (hb : Below w.heap.size w w') : MaxG w' := by
  obtain ⟨m, hm⟩ := h
  exact ⟨m, (hb.cell (World.block_lt_of_cell? _ _ hm)).trans hm⟩
theorem splitI_any (s : ByteArray) (c : UInt8) (w : World) (hs : s.size ≤ 2 ^ 20) (hm : MaxG w) :
    Calls Tryz.prog 68 #[.string s, .string ⟨#[c]⟩] w (RetSl 9 1 (splitB s c).length (strVals (splitB s c)) w) := by
  obtain ⟨m, hm⟩ := hm
  refine (Tryz.strings_Split s ⟨#[c]⟩ m w (by omega) hm (Nat.le_refl 1)).mono ?_
  rintro e w' ⟨rfl, rfl⟩
  rw [count_lib, split_lib c s.size s (Nat.le_refl _)]
  have hl : (splitB s c).length ≤ maxLen := by
    have h2 := (spT_le s c s.size).2
    have h3 : (splitB s c).length = (spT s c s.size).1.length + 1 := by unfold splitB; rw [List.length_append]; rfl
    unfold maxLen; omega
  exact ⟨_, _, rfl, World.ownsRow_lit w (e := 9) (size := 1) (strVals (splitB s c)).toArray (splitB s c).length (Nat.le_refl _) hl (by simp [strVals]), alloc_belowS _ _⟩
set_option maxHeartbeats 400000 in
theorem undotted_any (s : ByteArray) (w : World) :
    Calls Tryz.prog 75 #[.string s] w fun e w' => e = .returned (.string (undot s)) ∧ w = w' := by
  cases h : (s.toList == [46])
  · have F := Lib.hid (undot_no h)
    go_enter Tryz.func75, Tryz.ntmps75
    go_wp2_with fail
    go_ret
    exact ⟨ret_str F.out.symm, rfl⟩
  · have F := Lib.hid (undot_yes h)
    go_enter Tryz.func75, Tryz.ntmps75
    go_wp2_with fail
    go_ret
    exact ⟨ret_str F.out.symm, rfl⟩
/-- parts that are joined are got back -/
theorem split_join {l : List ByteArray} {c : UInt8} (h : 0 < l.length) (hf : ∀ s ∈ l, c ∉ s.data.toList) : splitB (joinF l ⟨#[c]⟩) c = l := by
  have hj := join_par hf (l.length - 1) (by omega)
  rw [show l.length - 1 + 1 = l.length by omega, List.take_of_length_le (Nat.le_refl _)] at hj
  unfold joinF
  rw [splitB_par, hj, List.map_map]
  exact (List.map_congr_left fun s _ => mkB_data s).trans (List.map_id _)
theorem wordOk_mem {k : Int} {s : ByteArray} (h : wordOkB k s = true) : ∀ b ∈ s.data.toList, 97 ≤ b.toNat ∧ b.toNat ≤ 122 := fun b hb => by
  unfold wordOkB at h
  simp only [Bool.and_eq_true] at h
  obtain ⟨h1, _, h3⟩ := h
  obtain ⟨ha, hb'⟩ := inB_bounds h1
  have h4 := List.all_eq_true.1 h3 b hb
  unfold letB at h4
  have := inB_bounds h4
  omega
theorem dotB_free {k : Int} {s : ByteArray} {c : UInt8} (h : wordOkB k s = true) (hc : c.toNat < 46 ∨ 46 < c.toNat ∧ c.toNat < 97) : c ∉ (dotB s).data.toList := fun hm => by
  unfold dotB at hm
  split at hm
  · have e : c = 46 := by simpa using hm
    rw [e] at hc
    simp at hc
  · have := wordOk_mem h c hm; omega
theorem undot_dot {k : Int} {s : ByteArray} (h : wordOkB k s = true) : undot (dotB s) = s := by
  unfold dotB
  split
  · rename_i h0
    have hs : s = ⟨#[]⟩ := by
      rw [Lib.toList_data, List.isEmpty_iff] at h0
      exact Go.WideShapes.bytes_inj (h0.trans rfl)
    rw [hs]
    exact undot_yes (by rw [Lib.toList_data]; rfl)
  · refine undot_no (beq_eq_false_iff_ne.2 fun e => ?_)
    rw [Lib.toList_data] at e
    have := wordOk_mem h 46 (by rw [e]; simp)
    simp at this
end Go.Proofs.YtoddpmdjjgnpgaaGreatDoor
namespace Go.Proofs.YtoddpmdjjgnpgaaGreatDoor
open Go.RowKit
set_option linter.unusedVariables false
/-- the text of a substitution -/
def subT (l : List ByteArray) : ByteArray := if subB l = true then joinF (dotTo l l.length) ⟨#[44]⟩ else ⟨#[]⟩
set_option maxHeartbeats 1000000 in
theorem implFormatSub_any (l : List ByteArray) (a : Option Addr) (cap : Nat) (w : World) (hl : StrsIn w a l) (hlen : l.length ≤ 2 ^ 40) (hs : SzS l) (hsz : strSum l ≤ 2 ^ 40) :
    Calls Tryz.prog 28 #[.slice a l.length cap] w fun e w' => e = .returned (.string (subT l)) ∧ Below w.heap.size w w' := by
  have HL := Lib.hid hl
  have HZ := Lib.hid (fmtWords_size hlen hsz)
  have HO := Lib.hid (implSub_any l a cap w hl hlen hs)
  clear hl hs
  cases hb : subB l
  · have F : Hid (subT l = ⟨#[]⟩) := Lib.hid (by unfold subT; rw [hb]; rfl)
    rw [hb] at HO
    clear hb
    go_enter Tryz.func28, Tryz.ntmps28
    go_wp2_with fail
    refine HO.out.mono ?_
    rintro e w2 ⟨rfl, hb2⟩
    have HB2 := Lib.hid hb2
    clear hb2
    go_wp2_with fail
    go_ret
    exact ⟨ret_str F.out.symm, HB2.out⟩
  have F : Hid (subT l = joinF (dotTo l l.length) ⟨#[44]⟩) := Lib.hid (by unfold subT; rw [hb]; rfl)
  rw [hb] at HO
  clear hb
  go_enter Tryz.func28, Tryz.ntmps28
  go_wp2_with fail
  refine HO.out.mono ?_
  rintro e w2 ⟨rfl, hb2⟩
  have HS := Lib.hid (Bld.nil 9 1 hb2)
  clear hb2
  go_wp2_with fail
  go_loopw [3, 11] (fun v i wr => ∃ j : Nat, j ≤ l.length ∧ i = .int .i64 j ∧ Bld 9 1 w wr v j (strVals (dotTo l j))) (fun _ i _ => l.length - (intOf i).toNat)
  case atStart => exact ⟨0, Nat.zero_le _, rfl, HS.out⟩
  case round =>
    clear HS
    obtain ⟨j, hj, rfl, hbd⟩ := hrel
    obtain ⟨a3, c3, rfl⟩ := owns_form hbd.1
    have HB := Lib.hid hbd
    have hbw := hbd.2
    clear hbd
    by_cases hlt : j < l.length
    · obtain ⟨b, off, rfl, hb, hc⟩ := (HL.out.later hbw).cell hlt
      have c1 := hc j hlt
      have F1 := Lib.hid (dotTo_succ hlt)
      clear hc
      go_wp2_with (first | (go_at_call 77; refine (dotted_any _ _).mono ?_; rintro e w' ⟨rfl, rfl⟩) | (at_builtin; refine wpList_app1 rfl _ _ rfl Tryz.underlying47 Tryz.infoStr rfl (by decide) rfl HB.out rfl rfl ?c1 ?c2 ?c3 ?c4))
      case c1 => simp [Value.oneCell']
      case c2 => unfold maxLen; omega
      case c3 => omega
      intro v2 w4 hb2
      have F2 : Hid (Bld 9 1 w w4 v2 (j + 1) (strVals (dotTo l (j + 1)))) := by
        rw [F1.out]; unfold strVals at *; rw [List.map_append]; exact Lib.hid hb2
      clear hb2
      go_wp2_with fail
      go_roundw
      case rel => exact ⟨j + 1, by omega, by go_num, F2.out⟩
      case measure => simp [intOf]; omega
    · obtain rfl : j = l.length := by omega
      have hdl := dotTo_len (l := l) (Nat.le_refl _)
      go_wp2_with fail
      have hJ := implJoin_any (dotTo l l.length) ⟨#[44]⟩ a3 c3 wr (owns_strs HB.out.1) (by decide) (by decide) (by omega) (by rw [hdl]; exact owns_capS HB.out.1) HZ.out
      rw [hdl] at hJ
      refine hJ.mono ?_
      rintro e w5 ⟨rfl, hb5⟩
      replace hbw := Below.now hbw hb5
      clear hb5 hJ
      go_wp2_with fail
      go_ret
      exact ⟨ret_str F.out.symm, hbw⟩
end Go.Proofs.YtoddpmdjjgnpgaaGreatDoor
namespace Go.Proofs.YtoddpmdjjgnpgaaGreatDoor
open Go.RowKit
set_option linter.unusedVariables false
/-- the parts of a tag system's text -/
def tagL (r : Int) (l : List ByteArray) (j : Nat) : List ByteArray := numB r :: dotTo l j
theorem tagL_len {r : Int} {l : List ByteArray} {j : Nat} (h : j ≤ l.length) : (tagL r l j).length = j + 1 := by unfold tagL; rw [List.length_cons, dotTo_len h]
theorem tagL_succ {r : Int} {l : List ByteArray} {j : Nat} (h : j < l.length) : tagL r l (j + 1) = tagL r l j ++ [dotB (nthS l j)] := by unfold tagL; rw [dotTo_succ h]; rfl
def tagT (r : Int) (l : List ByteArray) : ByteArray := if tagB r l = true then joinF (tagL r l l.length) ⟨#[32]⟩ else ⟨#[]⟩
theorem subB_part {l : List ByteArray} (h : subB l = true) : (1 ≤ l.length ∧ l.length ≤ 4) ∧ ∀ p ∈ l, p.size ≤ 8 ∧ wordOkB (l.length : Nat) p = true := by
  unfold subB at h
  simp only [Bool.and_eq_true, Bool.not_eq_true'] at h
  have h1 := inB_bounds h.1
  refine ⟨by omega, fun p hp => ?_⟩
  have h2 := List.any_eq_false.1 h.2 p hp
  unfold badP at h2
  simp only [Bool.or_eq_true, decide_eq_true_eq, Bool.not_eq_true', not_or, Bool.not_eq_false] at h2
  exact ⟨by omega, h2.2⟩
theorem tagB_part {r : Int} {l : List ByteArray} (h : tagB r l = true) : (1 ≤ r ∧ r ≤ 4) ∧ subB l = true := by
  unfold tagB at h
  simp only [Bool.and_eq_true] at h
  exact ⟨inB_bounds h.1, h.2⟩
theorem strSum_few {l : List ByteArray} {m : Nat} (h : ∀ p ∈ l, p.size ≤ m) : strSum l ≤ m * l.length := by
  have key : ∀ j, j ≤ l.length → sumTo l j ≤ m * j := by
    intro j
    induction j with
    | zero => intro _; exact Nat.zero_le _
    | succ j ih =>
      intro hj
      have h1 := ih (by omega)
      have h2 := h (nthS l j) (by rw [nthS_lt (by omega)]; exact List.getElem_mem _)
      show sumTo l j + _ ≤ _
      rw [Nat.mul_succ]; omega
  rw [← strSum_all]; exact key _ (Nat.le_refl _)
theorem tagT_size {r : Int} {l : List ByteArray} (h : tagB r l = true) : (joinF (tagL r l l.length) ⟨#[32]⟩).size ≤ 200 := by
  obtain ⟨hr, hs⟩ := tagB_part h
  obtain ⟨hl, hp⟩ := subB_part hs
  have h1 := joinF_size (tagL r l l.length) ⟨#[32]⟩
  rw [tagL_len (Nat.le_refl _)] at h1
  have h2 : strSum (tagL r l l.length) ≤ 21 * (tagL r l l.length).length := strSum_few (fun p hp' => by
    unfold tagL at hp'
    rcases List.mem_cons.1 hp' with e | hm
    · rw [e]; exact itoa_len (n := r) (by omega) (by omega)
    · unfold dotTo at hm
      obtain ⟨x, hx, rfl⟩ := List.mem_map.1 hm
      rw [List.take_length] at hx
      have h3 := (hp x hx).1
      have h4 := dotB_size x
      omega)
  rw [tagL_len (Nat.le_refl _)] at h2
  have h5 : (⟨#[32]⟩ : ByteArray).size = 1 := rfl
  rw [h5] at h1
  omega
set_option maxRecDepth 20000 in
set_option maxHeartbeats 2000000 in
theorem implFormatTag_any (r : Int) (l : List ByteArray) (a : Option Addr) (cap : Nat) (w : World) (hl : StrsIn w a l) (hlen : l.length ≤ 2 ^ 40) (hs : SzS l) (ht : Tab10 w) :
    Calls Tryz.prog 26 #[.agg #[.int .i64 r, .slice a l.length cap]] w fun e w' => e = .returned (.string (tagT r l)) ∧ Below w.heap.size w w' := by
  have HW1 := Lib.hid (alloc_belowS w (.cells #[.int .i64 r, .slice a l.length cap] 49))
  have HLA := Lib.hid hl
  have HL := Lib.hid (hl.later HW1.out)
  have HO := Lib.hid (fun W h => implTag_any r l a cap W h hlen hs)
  have HBX := Lib.hid (alloc_at w (.cells #[.int .i64 r, .slice a l.length cap] 49))
  have HT := Lib.hid ht
  clear hl hs ht
  cases hb : tagB r l
  · have F : Hid (tagT r l = ⟨#[]⟩) := Lib.hid (by unfold tagT; rw [hb]; rfl)
    rw [hb] at HO
    clear hb
    go_enter Tryz.func26, Tryz.ntmps26
    go_wp2_with fail
    refine (HO.out _ HL.out).mono ?_
    rintro e w2 ⟨rfl, hb2⟩
    have HB2 := Lib.hid (Below.now HW1.out hb2)
    clear hb2
    go_wp2_with fail
    go_ret
    exact ⟨ret_str F.out.symm, HB2.out⟩
  have F : Hid (tagT r l = joinF (tagL r l l.length) ⟨#[32]⟩) := Lib.hid (by unfold tagT; rw [hb]; rfl)
  have HTS := Lib.hid (tagT_size hb)
  obtain ⟨hr1, hr2⟩ := (tagB_part hb).1
  have h4 := (subB_part (tagB_part hb).2).1
  have HF := Lib.hid (fun W h => implFormatInt_any r W (by omega) (by omega) h)
  have hn := itoa_len (n := r) (by omega) (by omega)
  rw [hb] at HO
  clear hb
  go_enter Tryz.func26, Tryz.ntmps26
  go_wp2_with fail
  refine (HO.out _ HL.out).mono ?_
  rintro e w2 ⟨rfl, hb2⟩
  obtain ⟨s0, s1⟩ := tag_cells ((hb2.block w.heap.size (by simp)).trans HBX.out)
  have HW2 := Lib.hid (Below.now HW1.out hb2)
  have HL2 := Lib.hid (HL.out.later hb2)
  have HB2 : Hid (w2.heap[w.heap.size]? = some (.cells #[.int .i64 r, .slice a l.length cap] 49 (0, 0))) := Lib.hid ((hb2.block w.heap.size (by simp)).trans HBX.out)
  clear hb2
  go_wp2_with fail
  refine (HF.out _ (HT.out.later HW2.out)).mono ?_
  rintro e w3 ⟨rfl, hb3⟩
  have hb03 := (hb3.block w.heap.size (Array.getElem?_eq_some_iff.1 HB2.out).1).trans HB2.out
  have HW3 := Lib.hid (Below.now HW2.out hb3)
  clear s0 s1
  obtain ⟨s0, s1⟩ := tag_cells ((alloc_belowS w3 (.cells #[.string (numB r)] 9)).block w.heap.size (Array.getElem?_eq_some_iff.1 hb03).1 |>.trans hb03)
  have HB1 : Hid (Bld 9 1 w (w3.alloc (.cells #[.string (numB r)] 9)) (.slice (some ⟨w3.heap.size, 0, none⟩) 1 1) 1 (strVals (tagL r l 0))) := Lib.hid ⟨World.ownsRow_lit w3 (e := 9) (size := 1) #[.string (numB r)] 1 HW3.out.size (by unfold maxLen; omega) rfl, HW3.out.alloc HW3.out.size _⟩
  clear hb3 hb03
  go_wp2_with fail
  clear s0 s1
  go_loopw [3, 16] (fun v i wr => ∃ j : Nat, j ≤ l.length ∧ i = .int .i64 (j : Nat) ∧ Bld 9 1 w wr v (j + 1) (strVals (tagL r l j))) (fun _ i _ => l.length - (intOf i).toNat)
  case atStart => exact ⟨0, Nat.zero_le _, rfl, HB1.out⟩
  case round =>
    clear HB1
    obtain ⟨j, hj, rfl, hbd⟩ := hrel
    obtain ⟨a3, c3, rfl⟩ := owns_form hbd.1
    have HB := Lib.hid hbd
    have hbw := hbd.2
    clear hbd
    by_cases hlt : j < l.length
    · obtain ⟨b, off, rfl, hb, hc⟩ := (HLA.out.later hbw).cell hlt
      have c1 := hc j hlt
      have F1 := Lib.hid (tagL_succ (r := r) hlt)
      clear hc
      go_wp2_with (first | (go_at_call 77; refine (dotted_any _ _).mono ?_; rintro e w' ⟨rfl, rfl⟩) | (at_builtin; refine wpList_app1 rfl _ _ rfl Tryz.underlying47 Tryz.infoStr rfl (by decide) rfl HB.out rfl rfl ?c1 ?c2 ?c3 ?c4))
      case c1 => simp [Value.oneCell']
      case c2 => unfold maxLen; omega
      case c3 => omega
      intro v2 w4 hb2
      have F2 : Hid (Bld 9 1 w w4 v2 (j + 1 + 1) (strVals (tagL r l (j + 1)))) := by
        rw [F1.out]; unfold strVals at *; rw [List.map_append]; exact Lib.hid hb2
      clear hb2
      go_wp2_with fail
      go_roundw
      case rel => exact ⟨j + 1, by omega, by go_num, F2.out⟩
      case measure => simp [intOf]; omega
    · obtain rfl : j = l.length := by omega
      have hdl := tagL_len (r := r) (l := l) (Nat.le_refl _)
      have hJ := Lib.hid (implJoin_any (tagL r l l.length) ⟨#[32]⟩ a3 c3 wr (owns_strs HB.out.1) (by decide) (by decide) (by omega) (by rw [hdl]; exact owns_capS HB.out.1) (by have := HTS.out; omega))
      rw [hdl] at hJ
      have HBW := Lib.hid hbw
      clear hbw hdl
      go_wp2_with fail
      refine hJ.out.mono ?_
      rintro e w5 ⟨rfl, hb5⟩
      have HB6 := Lib.hid (Below.now HBW.out hb5)
      clear hb5 hJ
      go_wp2_with fail
      go_ret
      exact ⟨ret_str F.out.symm, HB6.out⟩
end Go.Proofs.YtoddpmdjjgnpgaaGreatDoor
namespace Go.Proofs.YtoddpmdjjgnpgaaGreatDoor
open Go.RowKit
set_option linter.unusedVariables false
/-- some text -/
def RetTx (w : World) (e : Ending) (w' : World) : Prop := ∃ s : ByteArray, e = .returned (.string s) ∧ Below w.heap.size w w'
set_option maxRecDepth 20000 in
set_option maxHeartbeats 2000000 in
theorem specFormatTag_c (r : Int) (l : List ByteArray) (a : Option Addr) (cap : Nat) (w : World) (hl : StrsIn w a l) (hlen : l.length ≤ 2 ^ 40) (hz : SzS l) :
    Calls Tryz.prog 148 #[.agg #[.int .i64 r, .slice a l.length cap]] w (RetTx w) := by
  have HL := Lib.hid hl
  have HR := Lib.hid (fun W h => specTag_any r l a cap W h hlen hz)
  have HA := Lib.hid (fun o => alloc_belowS w o)
  clear hl hz
  go_enter Tryz.func148, Tryz.ntmps148
  go_wp2_with fail
  refine (HR.out _ (HL.out.later (HA.out _))).mono ?_
  rintro e w2 ⟨rfl, hb2⟩
  have hb0 := (hb2.block w.heap.size (by simp)).trans (alloc_at w (.cells #[.int .i64 r, .slice a l.length cap] 49))
  obtain ⟨s0, s1⟩ := tag_cells hb0
  have HW2 := Lib.hid (Below.now (HA.out _) hb2)
  clear hb2 HR
  cases hbb : tagB r l
  · have F : Hid (∀ s, RetTx w (.returned (.string s)) w2) := Lib.hid (fun s => ⟨s, rfl, HW2.out⟩)
    go_wp2_with fail
    go_ret
    exact F.out _
  · have HSB := subB_part (tagB_part hbb).2
    have hr1 := (tagB_part hbb).1
    have hl4 := HSB.1.2
    have HPS := Lib.hid HSB.2
    have hn := itoa_len (n := r) (by omega) (by omega)
    have HF := Lib.hid (fun W => specFormatInt_any r W (by omega) (by omega))
    clear hbb HSB
    go_wp2_with fail
    refine (HF.out _).mono ?_
    rintro e w3 ⟨rfl, hb3⟩
    have hb03 := (hb3.block w.heap.size (Array.getElem?_eq_some_iff.1 hb0).1).trans hb0
    obtain ⟨s0, s1⟩ := tag_cells hb03
    have HW3 := Lib.hid (Below.now HW2.out hb3)
    have hn2 : (⟨(Lib.itoa r).toArray⟩ : ByteArray).size ≤ 21 := hn
    clear hb3 HF hb0
    go_wp2_with fail
    clear s0 s1
    generalize (⟨(Lib.itoa r).toArray⟩ : ByteArray) = t0 at *
    go_loopw [3, 15] (fun s i wr => ∃ (j : Nat) (x : ByteArray), (j ≤ l.length ∧ x.size ≤ 21 + j * 20) ∧ i = .int .i64 (j : Nat) ∧ s = .string x ∧ Below w.heap.size w wr) (fun _ i _ => l.length - (intOf i).toNat)
    case atStart => exact ⟨0, t0, ⟨Nat.zero_le _, by omega⟩, rfl, rfl, HW3.out⟩
    case round =>
      obtain ⟨j, x, ⟨hj, hx⟩, rfl, rfl, hbw⟩ := hrel
      have HBW := Lib.hid hbw
      by_cases hlt : j < l.length
      · obtain ⟨b, off, rfl, hb, hc⟩ := (HL.out.later hbw).cell hlt
        have c1 := hc j hlt
        have hp := (HPS.out (nthS l j) (by rw [nthS_lt hlt]; exact List.getElem_mem hlt)).1
        have hd := dotB_size (nthS l j)
        have P1 := Lib.hid (fun W => l03Side_any (nthS l j) W)
        have hz1 : (⟨#[32]⟩ : ByteArray).size = 1 := rfl
        clear hc hbw
        generalize nthS l j = s at *
        generalize dotB s = d at *
        have hA : ¬ 9223372036854775807 < x.size + 1 := by omega
        have hB : ¬ 9223372036854775807 < x.size + 1 + d.size := by omega
        have hS : (x ++ ⟨#[32]⟩ ++ d).size ≤ 21 + (j + 1) * 20 := by
          rw [ByteArray.size_append, ByteArray.size_append, hz1]; omega
        go_wp2_with fail
        refine (P1.out _).mono ?_
        rintro e w5 ⟨rfl, rfl⟩
        go_wp2_with fail
        go_roundw
        case rel => exact ⟨j + 1, _, ⟨by omega, hS⟩, by go_num, rfl, HBW.out⟩
        case measure => simp [intOf]; omega
      · have F : Hid (RetTx w (.returned (.string x)) wr) := Lib.hid ⟨x, rfl, hbw⟩
        go_wp2_with fail
        go_ret
        exact F.out
set_option maxRecDepth 20000 in
set_option maxHeartbeats 2000000 in
theorem specFormatSub_c (l : List ByteArray) (a : Option Addr) (cap : Nat) (w : World) (hl : StrsIn w a l) (hlen : l.length ≤ 2 ^ 40) (hz : SzS l) :
    Calls Tryz.prog 149 #[.slice a l.length cap] w (RetTx w) := by
  have HL := Lib.hid hl
  have HR := Lib.hid (specSub_any l a cap w hl hlen hz)
  clear hl hz
  go_enter Tryz.func149, Tryz.ntmps149
  go_wp2_with fail
  refine HR.out.mono ?_
  rintro e w2 ⟨rfl, hb2⟩
  have HW2 := Lib.hid hb2
  clear hb2 HR
  cases hbb : subB l
  · have F : Hid (∀ s, RetTx w (.returned (.string s)) w2) := Lib.hid (fun s => ⟨s, rfl, HW2.out⟩)
    go_wp2_with fail
    go_ret
    exact F.out _
  · have HSB := subB_part hbb
    have hl4 := HSB.1.2
    have HPS := Lib.hid HSB.2
    have HZ := Lib.hid (fmtWords_size (l := l) hlen (Nat.le_trans (strSum_few fun p hp => (HSB.2 p hp).1) (by omega)))
    have HS := Lib.hid (Bld.empty 9 1 w2)
    clear hbb HSB
    go_wp2_with fail
    go_loopw [3, 12] (fun v i wr => ∃ j : Nat, j ≤ l.length ∧ i = .int .i64 (j : Nat) ∧ Bld 9 1 w2 wr v j (strVals (dotTo l j))) (fun _ i _ => l.length - (intOf i).toNat)
    case atStart => exact ⟨0, Nat.zero_le _, rfl, HS.out⟩
    case round =>
      clear HS
      obtain ⟨j, hj, rfl, hbd⟩ := hrel
      obtain ⟨a3, c3, rfl⟩ := owns_form hbd.1
      have HB := Lib.hid hbd
      have hbw := hbd.2
      have HBW := Lib.hid (Below.now HW2.out hbd.2)
      clear hbd
      by_cases hlt : j < l.length
      · obtain ⟨b, off, rfl, hb, hc⟩ := (HL.out.later HBW.out).cell hlt
        have c1 := hc j hlt
        have F1 := Lib.hid (dotTo_succ hlt)
        have P1 := Lib.hid (fun W => l03Side_any (nthS l j) W)
        clear hc
        generalize nthS l j = s at *
        generalize dotB s = d at *
        go_wp2_with (first | (go_at_call 177; refine (P1.out _).mono ?_; rintro e w' ⟨rfl, rfl⟩) | (at_builtin; refine wpList_app1 rfl _ _ rfl Tryz.underlying47 Tryz.infoStr rfl (by decide) rfl HB.out rfl rfl ?c1 ?c2 ?c3 ?c4))
        case c1 => simp [Value.oneCell']
        case c2 => unfold maxLen; omega
        case c3 => omega
        intro v2 w4 hb2
        have F2 : Hid (Bld 9 1 w2 w4 v2 (j + 1) (strVals (dotTo l (j + 1)))) := by
          rw [F1.out]; unfold strVals at *; rw [List.map_append]; exact Lib.hid hb2
        clear hb2
        go_wp2_with fail
        go_roundw
        case rel => exact ⟨j + 1, by omega, by go_num, F2.out⟩
        case measure => simp [intOf]; omega
      · obtain rfl : j = l.length := by omega
        have hdl := dotTo_len (l := l) (Nat.le_refl _)
        have hJ := Lib.hid (specJoin_any (dotTo l l.length) ⟨#[44]⟩ a3 c3 wr (owns_strs HB.out.1) (by decide) (by omega) HZ.out)
        rw [hdl] at hJ
        clear hbw hdl
        go_wp2_with fail
        refine hJ.out.mono ?_
        rintro e w5 ⟨rfl, hb5⟩
        have F : Hid (∀ s, RetTx w (.returned (.string s)) w5) := Lib.hid (fun s => ⟨s, rfl, Below.now HBW.out hb5⟩)
        clear hb5 hJ
        go_wp2_with fail
        go_ret
        exact F.out _
end Go.Proofs.YtoddpmdjjgnpgaaGreatDoor
namespace Go.Proofs.YtoddpmdjjgnpgaaGreatDoor
open Go.RowKit
set_option linter.unusedVariables false
/-- some tag system in memory -/
def RetTgC (m : Nat) (w : World) (e : Ending) (w' : World) : Prop := ∃ (k : Int) (R : List ByteArray) (a : Option Addr) (cap : Nat) (b : Bool),
  (ShortS m R ∧ R.length ≤ m) ∧ e = .returned (.tuple #[.agg #[.int .i64 k, .slice a R.length cap], .bool b]) ∧ StrsIn w' a R ∧ Below w.heap.size w w'
theorem RetTgC.zero {m : Nat} {w wr : World} (h : Below w.heap.size w wr) : RetTgC m w (.returned (.tuple #[.agg #[.int .i64 0, .slice none 0 0], .bool false])) ((wr.setCell ⟨w.heap.size, 0, none⟩ (.int .i64 0)).setCell ⟨w.heap.size, 1, none⟩ (.slice none 0 0)) :=
  ⟨0, [], none, 0, false, ⟨fun r hr => by simp at hr, Nat.zero_le _⟩, rfl, .inl rfl, (h.setCell (Nat.le_refl _) _).setCell (Nat.le_refl _) _⟩
set_option maxRecDepth 20000 in
set_option maxHeartbeats 4000000 in
theorem specParseTag_c (s : ByteArray) (w : World) (hs : s.size ≤ 1000) :
    Calls Tryz.prog 105 #[.string s] w (RetTgC (s.size + 1) w) := by
  have HSP := Lib.hid (fun W => specSplitAny_any s 32 W (by omega))
  have HW1 := Lib.hid ((Below.refl w.heap.size w).alloc (Nat.le_refl _) (.cells #[.int .i64 0, .slice none 0 0] 49))
  go_enter Tryz.func105, Tryz.ntmps105
  go_wp2_with fail
  refine (HSP.out _).mono ?_
  rintro e w2 ⟨l, ⟨hl1, hl2, hl3⟩, a, cap, rfl, ho, hb2⟩
  have hb0 := (hb2.block w.heap.size (by simp)).trans (alloc_at w (.cells #[.int .i64 0, .slice none 0 0] 49))
  have hcap := owns_capS ho
  obtain ⟨g, hg, off, rfl, hcells⟩ : ∃ g, g < w2.heap.size ∧ ∃ off, a = some ⟨g, off, none⟩ ∧ ∀ j, j < l.length → w2.cell? ⟨g, off + j, none⟩ = some (.string (nthS l j)) := by
    obtain ⟨b, off, ha, hb, hc⟩ := (owns_strs ho).cell (show 0 < l.length by omega)
    exact ⟨b, hb, off, ha, hc⟩
  have hc0 : w2.cell? ⟨g, off, none⟩ = some (.string (nthS l 0)) := hcells 0 (by omega)
  have hz0 := hl1.at_ (show 0 < l.length by omega)
  have HPI := Lib.hid (fun W => specParseInt_any (nthS l 0) W (by omega))
  have HB2 := Lib.hid (Below.now HW1.out hb2)
  have HC := Lib.hid hcells
  have HO := Lib.hid hb0
  clear hcells hb2 ho hz0 hb0
  generalize nthS l 0 = s0 at *
  go_wp2_with fail
  refine (HPI.out _).mono ?_
  rintro e w3 ⟨n, b, ⟨hn1, hn2⟩, rfl, hb3⟩
  have hb0 := (hb3.block w.heap.size (Array.getElem?_eq_some_iff.1 HO.out).1).trans HO.out
  have HB3 := Lib.hid (Below.now HB2.out hb3)
  have HC3 : Hid (∀ j, j < l.length → w3.cell? ⟨g, off + j, none⟩ = some (.string (nthS l j))) := Lib.hid (fun j hj => by rw [hb3.cell (World.block_lt_of_cell? w2 _ (HC.out j hj))]; exact HC.out j hj)
  clear hb3 HC HO HPI hc0
  cases b
  · have F := Lib.hid (RetTgC.zero (m := s.size + 1) HB3.out)
    obtain ⟨z0, z1⟩ := tag_cells hb0
    obtain ⟨u0, u1⟩ := tag_cells (set_two hb0 (.int .i64 0) (.slice none 0 0))
    have ff0 : w3.frozen? ⟨w.heap.size, 0, none⟩ = false := by simp [World.frozen?, hb0]
    have ff1 : w3.frozen? ⟨w.heap.size, 1, none⟩ = false := by simp [World.frozen?, hb0]
    clear hb0
    go_wp2_with fail
    refine bodyPost_ret (v := .tuple #[.agg #[.int .i64 0, .slice none 0 0], .bool false]) ?_ rfl F.out
    simp [results, Tryz.results105, go_sem, u0, u1]
  · have HR := Lib.hid (Rec2.start 49 9 1 (w := w3) (w1 := w3) (Below.refl _ _) (.int .i64 n))
    obtain ⟨m, hm⟩ : ∃ m, l.length = m + 1 := ⟨l.length - 1, by omega⟩
    have HZ := Lib.hid hb0
    clear hb0
    go_upto_region 6 with fail
    generalize hW4 : w3.alloc (.cells #[.int .i64 n, .slice none 0 0] 49) = w4 at *
    go_cut [25, 26, 27] (fun v u i wx => ∃ off2 cap2, v = .slice (some ⟨g, off2, none⟩) m cap2 ∧ u = .int .i64 (m : Nat) ∧ i = .int .i64 0 ∧ (∀ j, j < m → w3.cell? ⟨g, off2 + j, none⟩ = some (.string (nthS l (j + 1)))) ∧ wx = w4)
    case first =>
      by_cases hc1 : cap = 1
      · subst hc1
        obtain rfl : m = 0 := by omega
        go_wp2_with fail
        go_meet
        exact ⟨_, _, rfl, rfl, rfl, fun j hj => by omega, rfl⟩
      · have hc2 : (1 : Int) < (cap : Int) := by omega
        have hc3 : ¬ (cap : Int) = 1 := by omega
        have HCC : Hid (∀ j, j < m → w3.cell? ⟨g, off + 1 + j, none⟩ = some (.string (nthS l (j + 1)))) := Lib.hid (fun j hj => by rw [show off + 1 + j = off + (j + 1) by omega]; exact HC3.out (j + 1) (by omega))
        go_wp2_with fail
        go_meet
        exact ⟨_, _, rfl, rfl, rfl, HCC.out, rfl⟩
    case rest =>
      obtain ⟨off2, cap2, rfl, rfl, rfl, hcs, rfl⟩ := hcut
      have HCS := Lib.hid hcs
      clear hcs HC3 hW4
      go_wp2_with fail
      go_loopw [27] (fun i wr => ∃ (R : List ByteArray) (v : Value), R.length ≤ m ∧ i = .int .i64 (R.length : Nat) ∧ Hid (ShortS s.size R) ∧ Hid (Rec2 49 9 1 w3 wr w3.heap.size (.int .i64 n) v R.length (strVals R))) (fun i _ => m - (intOf i).toNat)
      case atStart => exact ⟨[], .slice none 0 0, Nat.zero_le _, rfl, Lib.hid (fun r hr => by simp at hr), HR⟩
      case round =>
        clear HR
        obtain ⟨R, v, hj, rfl, hsh, HRC⟩ := hrel
        obtain ⟨a3, c3, rfl⟩ := owns_form HRC.out.own
        have HBW := Lib.hid (Below.now HB3.out HRC.out.below)
        have hz := (HRC.out.below.block w.heap.size (Array.getElem?_eq_some_iff.1 HZ.out).1).trans HZ.out
        have hsz := HRC.out.lt
        by_cases hlt : R.length < m
        · have cw : wr.cell? ⟨g, off2 + R.length, none⟩ = some (.string (nthS l (R.length + 1))) := by rw [HRC.out.below.cell (World.block_lt_of_cell? w3 _ (HCS.out R.length hlt))]; exact HCS.out R.length hlt
          have hnz := hl1.at_ (show R.length + 1 < l.length by omega)
          have hl6 := HRC.out.lt
          have HZW := Lib.hid hz
          generalize nthS l (R.length + 1) = sj at *
          have HSZ2 : Hid (sj.size ≤ s.size) := Lib.hid hnz
          clear hz
          cases hd : (sj.toList == [46])
          all_goals
            go_upto_region 11 with fail
            obtain ⟨_, y1, _, y3⟩ := HRC.out.facts
            obtain ⟨sy, hsy, hsz2⟩ : ∃ sy : ByteArray, sy = (if (sj.toList == [46]) = true then ⟨#[]⟩ else sj) ∧ sy.size ≤ s.size := ⟨_, rfl, by
              split
              · first | exact HSZ2.out | exact Nat.zero_le _
              · first | exact HSZ2.out | exact Nat.zero_le _⟩
            rw [hd] at hsy
            first | (have e9 : sy = sj := hsy; clear hsy; subst e9) | (have e9 : sy = ⟨#[]⟩ := hsy; clear hsy; rw [← e9] at *)
            have HN1 : Hid ([Value.string sy].length = 1) := Lib.hid rfl
            have HN2 : Hid (∀ v ∈ [Value.string sy], v.oneCell' = true) := Lib.hid (fun v hv => by simp at hv; rcases hv with rfl; rfl)
            go_wp2_with (at_builtin; refine wpList_appH (n := R.length) (wr := wr) (news := [Value.string sy]) rfl (.tmp 34) (.tmp 36) rfl Tryz.underlying47 Tryz.infoStr rfl (by decide) rfl HRC.out.own HRC.out.lt rfl HN1.out HN2.out (by unfold maxLen; omega) (by omega) ?_; intro g4 c4 w4 ho4 hg4 hr4; obtain ⟨_, x1, _, x3⟩ := rec_cells (HRC.out.grown (Below.refl _ _) hg4))
            have HR4 : Hid (Rec2 49 9 1 w3 (w4.setCell ⟨w3.heap.size, 1, none⟩ (.slice (some ⟨g4, 0, none⟩) (R.length + 1) c4)) w3.heap.size (.int .i64 n) (.slice (some ⟨g4, 0, none⟩) (R.length + 1) c4) (R ++ [sy]).length (strVals (R ++ [sy]))) := Lib.hid (by
              rw [List.length_append, strVals_appP]; exact HRC.out.put (Below.refl _ _) hg4 ho4)
            have HSH := Lib.hid (hsh.out.app (s := sy) hsz2)
            clear ho4 hg4 hr4 y1 y3 x1 x3
            go_wp2_with fail
            go_roundw
            case rel => exact ⟨R ++ [sy], _, by simp; omega, by simp, HSH, HR4⟩
            case measure => simp [intOf]; omega
        · obtain rfl : m = R.length := by omega
          have HRO := Lib.hid (fun W h => specTag_any n R a3 c3 W h (by omega) (fun j hj => Nat.le_trans (hsh.out.at_ hj) (by unfold maxLen; omega)))
          have HFS := Lib.hid (fun W h => specFormatTag_c n R a3 c3 W h (by omega) (fun j hj => Nat.le_trans (hsh.out.at_ hj) (by unfold maxLen; omega)))
          have HRI := Lib.hid (owns_strs HRC.out.own)
          obtain ⟨y0, y1, _, _⟩ := HRC.out.facts
          have HZW := Lib.hid hz
          clear hz
          go_wp2_with fail
          refine (HRO.out _ HRI.out).mono ?_
          rintro e w5 ⟨rfl, hb5⟩
          obtain ⟨bb, hbb⟩ : ∃ bb, tagB n R = bb := ⟨_, rfl⟩
          rw [hbb]
          have HR5 := Lib.hid (HRC.out.later hb5)
          replace HBW := Lib.hid (Below.now HBW.out hb5)
          have hz := (hb5.block w.heap.size (Array.getElem?_eq_some_iff.1 HZW.out).1).trans HZW.out
          clear HRC HZW hb5 HRO hbb y0 y1 HRI
          cases bb
          · have F := Lib.hid (RetTgC.zero (m := s.size + 1) HBW.out)
            obtain ⟨z0, z1⟩ := tag_cells hz
            obtain ⟨u0, u1⟩ := tag_cells (set_two hz (.int .i64 0) (.slice none 0 0))
            have ff0 : w5.frozen? ⟨w.heap.size, 0, none⟩ = false := by simp [World.frozen?, hz]
            have ff1 : w5.frozen? ⟨w.heap.size, 1, none⟩ = false := by simp [World.frozen?, hz]
            clear hz
            go_wp2_with fail
            refine bodyPost_ret (v := .tuple #[.agg #[.int .i64 0, .slice none 0 0], .bool false]) ?_ rfl F.out
            simp [results, Tryz.results105, go_sem, u0, u1]
          · have HRI := Lib.hid (owns_strs HR5.out.own)
            obtain ⟨y0, y1, _, _⟩ := HR5.out.facts
            have HZW := Lib.hid hz
            clear hz
            go_wp2_with fail
            refine (HFS.out _ HRI.out).mono ?_
            rintro e w6 ⟨st, rfl, hb6⟩
            have HR6 := Lib.hid (HR5.out.later hb6)
            replace HBW := Lib.hid (Below.now HBW.out hb6)
            have hz := (hb6.block w.heap.size (Array.getElem?_eq_some_iff.1 HZW.out).1).trans HZW.out
            clear HR5 HZW hb6 HFS y0 y1 HRI
            cases hq : (st.toList == s.toList)
            · have F := Lib.hid (RetTgC.zero (m := s.size + 1) HBW.out)
              obtain ⟨z0, z1⟩ := tag_cells hz
              obtain ⟨u0, u1⟩ := tag_cells (set_two hz (.int .i64 0) (.slice none 0 0))
              have ff0 : w6.frozen? ⟨w.heap.size, 0, none⟩ = false := by simp [World.frozen?, hz]
              have ff1 : w6.frozen? ⟨w.heap.size, 1, none⟩ = false := by simp [World.frozen?, hz]
              clear hz
              go_wp2_with fail
              refine bodyPost_ret (v := .tuple #[.agg #[.int .i64 0, .slice none 0 0], .bool false]) ?_ rfl F.out
              simp [results, Tryz.results105, go_sem, u0, u1]
            · have F : Hid (RetTgC (s.size + 1) w (.returned (.tuple #[.agg #[.int .i64 n, .slice a3 R.length c3], .bool true])) ((w6.setCell ⟨w.heap.size, 0, none⟩ (.int .i64 n)).setCell ⟨w.heap.size, 1, none⟩ (.slice a3 R.length c3))) := Lib.hid ⟨n, R, a3, c3, true, ⟨fun r hr => Nat.le_trans (hsh.out r hr) (by omega), by omega⟩, rfl,
                owns_strs (ownsRow_setCell_below (ownsRow_setCell_below HR6.out.own (by show w.heap.size < w3.heap.size + 1; have := HB3.out.size; omega) _) (by show w.heap.size < w3.heap.size + 1; have := HB3.out.size; omega) _), (HBW.out.setCell (Nat.le_refl _) _).setCell (Nat.le_refl _) _⟩
              obtain ⟨y0, y1, _, _⟩ := HR6.out.facts
              obtain ⟨z0, z1⟩ := tag_cells hz
              obtain ⟨u0, u1⟩ := tag_cells (set_two hz (.int .i64 n) (.slice a3 R.length c3))
              have ff0 : w6.frozen? ⟨w.heap.size, 0, none⟩ = false := by simp [World.frozen?, hz]
              have ff1 : w6.frozen? ⟨w.heap.size, 1, none⟩ = false := by simp [World.frozen?, hz]
              clear hz
              go_wp2_with fail
              refine bodyPost_ret (v := .tuple #[.agg #[.int .i64 n, .slice a3 R.length c3], .bool true]) ?_ rfl F.out
              simp [results, Tryz.results105, go_sem, u0, u1]
end Go.Proofs.YtoddpmdjjgnpgaaGreatDoor
