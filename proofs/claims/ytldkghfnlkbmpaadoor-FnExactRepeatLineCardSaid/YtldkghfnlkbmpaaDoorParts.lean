/-
  CountDifferentParts, of the program and of the reference.
-/
import Derived.Test.YtldkghfnlkbmpaaDoorPartsPl
import Derived.WalkKit
namespace Go.Proofs.YtldkghfnlkbmpaaDoor
open Go.RowKit Go.Maps Go.WideMaps
set_option linter.unusedVariables false
set_option maxRecDepth 20000 in
set_option maxHeartbeats 400000 in
theorem specParts_any (s : ByteArray) (w : World) (hok : longOkB 4 s = true) (hs : s.size ≤ 60) :
    Calls Tryd.prog 42 #[.string s] w fun e w' => e = .returned (.int .i64 ((cOut (bl s) s.size : Nat) : Int)) ∧ Below w.heap.size w w' := by
  have HL1 := Lib.hid (fun W => l21Ok_any s W (by unfold maxLen; omega))
  rw [hok] at HL1
  have HOK := Lib.hid hok
  have HLn := Lib.hid (bl_len s)
  have q9 : ¬ (60 : Int) < (s.size : Int) := by omega
  clear hok
  go_enter Tryd.func42, Tryd.ntmps42
  go_wp2_with (go_at_call 39; refine (HL1.out _).mono ?_; rintro e w' ⟨rfl, rfl⟩)
  go_loopw [3, 4] (fun c i wr => ∃ n cn : Nat, i = .int .i64 ((n : Nat) : Int) ∧ c = .int .i64 ((cn : Nat) : Int) ∧ n ≤ s.size ∧ cn ≤ 1 + 60 * n ∧ Hid (cn = cOut (bl s) n) ∧ Below w.heap.size w wr) (fun _ i _ => s.size - (intOf i).toNat)
  case atStart => exact ⟨0, 1, rfl, rfl, Nat.zero_le _, by omega, Lib.hid rfl, Below.refl _ _⟩
  case round =>
    obtain ⟨n, cn, rfl, rfl, hn, hcn, HC, hbw⟩ := hrel
    by_cases hlt : n < s.size
    · have q0 : (n : Int) < (s.size : Int) := by omega
      have HIn : Hid (cn = cOut (bl s) n + cIn (bl s) n 0) := Lib.hid HC.out
      go_wp2_with fail
      generalize hW : wr = wr0 at *
      clear hW
      go_loopw [3, 5] (fun c e wr => ∃ d cm : Nat, e = .int .i64 ((n + 1 + d : Nat) : Int) ∧ c = .int .i64 ((cm : Nat) : Int) ∧ n + d ≤ s.size ∧ cm ≤ cn + d ∧ Hid (cm = cOut (bl s) n + cIn (bl s) n d) ∧ Below w.heap.size w wr) (fun _ e _ => s.size + 1 - (intOf e).toNat)
      case atStart => exact ⟨0, cn, by congr 1, rfl, by omega, by omega, HIn, hbw⟩
      case round =>
        clear HIn hbw
        obtain ⟨d, cm, rfl, rfl, hd, hcm, HI, hbw⟩ := hrel
        obtain ⟨e, he⟩ : ∃ e, e = n + 1 + d := ⟨_, rfl⟩
        rw [← he]
        have HEE := Lib.hid he
        have hne : n < e := by omega
        have hed : e ≤ s.size → n + (d + 1) ≤ s.size := by omega
        have hed2 : ¬ e ≤ s.size → d = s.size - n := by omega
        clear he
        by_cases hle : e ≤ s.size
        · have q1 : (e : Int) ≤ (s.size : Int) := by omega
          have q2 : (n : Int) ≤ (e : Int) := by omega
          have hsub : (bl (s.extract n e)) = sub (bl s) n e := bl_sub s n e
          have hqs : 1 ≤ (s.extract n e).size := by rw [ByteArray.size_extract]; omega
          have hqo : longOkB 4 (s.extract n e) = true := by
            have hl : allB (letB 4) (s.extract n e) = true := by
              have := HOK.out
              simp [longOkB] at this
              have h2 := this.2.2
              unfold allB at *
              rw [List.all_eq_true] at *
              intro c hc
              refine h2 c ?_
              have hx : (s.extract n e).data.toList = bl (s.extract n e) := rfl
              rw [hx, hsub] at hc
              exact List.mem_of_mem_drop (List.mem_of_mem_take hc)
            have hz : (s.extract n e).size ≤ 400 := by rw [ByteArray.size_extract]; omega
            have hz2 : decide ((s.extract n e).size ≤ 400) = true := decide_eq_true hz
            unfold longOkB
            rw [hl, hz2]; rfl
          have HFA := Lib.hid (fun W => findAll_any s (s.extract n e) W HOK.out hqo hqs)
          have HNW := Lib.hid (fun xs (h : fnd (bl (s.extract n e)) (bl s) s.size xs) => fnd_new (l := bl s) (i := n) (e := e) (by omega) (by rw [HLn.out]; exact hle) (by rw [← hsub, HLn.out]; exact h))
          have HST : Hid (cIn (bl s) n (d + 1) = cIn (bl s) n d + (if newB (bl s) n e = true then 1 else 0)) := Lib.hid (by rw [HEE.out]; rfl)
          have hdn := hed hle
          clear hsub hqs hqo hed hed2
          go_wp2_with fail
          refine (HFA.out _).mono ?_
          rintro e2 w2 ⟨xs, hf, a, c, rfl, ho, hb2⟩
          obtain ⟨hx1, hx2⟩ := HNW.out xs hf
          obtain ⟨b, rfl, hc⟩ := natCell ho (j := 0) (by omega)
          have B2 := Lib.hid (Below.now hbw hb2)
          have HX2 := Lib.hid hx2
          have q4 : (0 : Int) < (xs.length : Int) := by omega
          clear ho hb2 hf hx2 HFA HNW
          generalize xs.getD 0 0 = v at *
          by_cases hv : v = n
          · have hve : ((v : Int) == (n : Int)) = true := by rw [beq_iff_eq]; omega
            have F : Hid (cm + 1 = cOut (bl s) n + cIn (bl s) n (d + 1)) := Lib.hid (by rw [HST.out, if_pos (HX2.out.1 hv), ← Nat.add_assoc, ← HI.out])
            clear hv
            go_wp2_with fail
            go_roundw
            case rel => exact ⟨d + 1, cm + 1, by have := HEE.out; congr 1; omega, by go_num, by omega, by omega, F, B2.out⟩
            case measure => simp [intOf]; omega
          · have hve : ((v : Int) == (n : Int)) = false := by rw [beq_eq_false_iff_ne]; omega
            have F : Hid (cm = cOut (bl s) n + cIn (bl s) n (d + 1)) := Lib.hid (by rw [HST.out, if_neg (fun h => hv (HX2.out.2 h))]; exact HI.out)
            go_wp2_with fail
            go_roundw
            case rel => exact ⟨d + 1, cm, by have := HEE.out; congr 1; omega, rfl, by omega, by omega, F, B2.out⟩
            case measure => simp [intOf]; omega
        · have hde : d = s.size - n := hed2 hle
          have F : Hid (cm = cOut (bl s) (n + 1)) := Lib.hid (by
            have := HI.out
            rw [hde, ← HLn.out] at this; exact this)
          have q1 : ¬ (e : Int) ≤ (s.size : Int) := by omega
          clear hde
          go_wp2_with fail
          go_roundw
          case rel => exact ⟨n + 1, cm, by go_num, rfl, by omega, by omega, F, hbw⟩
          case measure => simp [intOf]; omega
    · obtain rfl : n = s.size := by omega
      have q0 : ¬ (s.size : Int) < (s.size : Int) := by omega
      go_wp2_with fail
      go_ret
      exact ⟨by rw [HC.out]; rfl, hbw⟩
/-- a key laid in by a map's literal -/
theorem wpList_insert_own {H : Type} {P : Program} (w : World) {ops : Array Oper} {rest : List Oper} {o : Oper} {a : Act} {Q : Exit → Act → World → Prop}
    (hg : o.guard = none) (m x v : Operand) (t : TypeId) (hop : o.op = Op.insert t m x v)
    (k e : TypeId) (K : Keyed P k) (ht : P.underlying t = some (.map k e)) (R : Value → Option (DataW H × List MemPlace)) (b n : Nat) (D : DataW H)
    (hm : a.eval m = .map (some b)) (hown : w.ownsMap P k R b n D) (hn : n < maxLen) (key val : Value) (kl : Lit) (hx : a.eval x = key) (hv : a.eval v = val) (hkey : keyOf P k key = some kl)
    (d : DataW H) (ps : List MemPlace) (hval : R val = some (d, ps))
    (hK : ∀ w', w'.ownsMap P k R b (n + 1) (D.put kl d) → w.grownBy w' (some b) → wpList P ops Q rest (a.put o.dst undef) w') :
    wpList P ops Q (o :: rest) a w := by
  refine wpList_plain hg fun K' hK' => ?_
  obtain ⟨w', hrun, r1, r2⟩ := hown.update K ht hn hkey hval
  unfold Oper.wp
  simp [execOp, hop, hm, hx, hv, hrun, Result.andThen]
  exact hK' _ _ (hK w' r1 r2)
theorem keyS : Keyed Tryd.prog 9 := string_keyed Tryd.underlying9
theorem keyOk (s : ByteArray) (h : s.size ≤ maxLen) : keyOf Tryd.prog 9 (.string s) = some (.string (bl s)) := keyOf_string_mk Tryd.underlying9 h
set_option maxRecDepth 100000 in
set_option maxHeartbeats 1000000 in
theorem implParts_any (s : ByteArray) (w : World) (hok : longOkB 4 s = true) (hs : s.size ≤ 60) :
    Calls Tryd.prog 46 #[.string s] w fun e w' => e = .returned (.int .i64 ((cOut (bl s) s.size : Nat) : Int)) ∧ Below w.heap.size w w' := by
  have hmm := @run_makeMap Tryd.prog
  have HL1 := Lib.hid (fun W => implLongOk_any 4 s W (by unfold maxLen; omega))
  rw [hok] at HL1
  have HLn := Lib.hid (bl_len s)
  have q9 : ¬ (60 : Int) < (s.size : Int) := by omega
  clear hok
  go_enter Tryd.func46, Tryd.ntmps46
  have hk0 : keyOf Tryd.prog 9 (.string ⟨#[]⟩) = some (.string []) := keyOk ⟨#[]⟩ (by decide)
  have HK0 := Lib.hid (keysOk_start (H := Unit) (bl s) (.lit (.bool true)))
  go_wp2_with (first
    | (go_at_call 43; refine (HL1.out _).mono ?_; rintro e w' ⟨rfl, rfl⟩)
    | (refine wpList_insert_own _ rfl _ _ _ 70 rfl 9 4 keyS Tryd.underlying70 (plainElem (H := Unit) Tryd.prog 4) w.heap.size 0 (.map []) rfl (World.ownsMap_made _ _ _ _) (by decide) _ _ _ rfl rfl hk0 _ [] (plainElem_bool Tryd.underlying4 true) ?_; intro w1 hown1 hgrow1)
    | go_in)
  have HB1 : Hid (Below w.heap.size w w1) := Lib.hid (((Below.refl w.heap.size w).alloc (Nat.le_refl _) (.map #[] 0)).grown hgrow1 (by simp) (fun j hj => by cases hj; exact Nat.le_refl _))
  have HO1 := Lib.hid hown1
  clear hown1 hgrow1 hk0
  go_wp2_with fail
  go_loopw [18] (fun i wr => ∃ (n m : Nat) (D : DataW Unit), i = .int .i64 ((n : Nat) : Int) ∧ n ≤ s.size ∧ m ≤ 1 + 60 * n ∧ Hid (keysOk (bl s) n 0 D) ∧ Hid (wr.ownsMap Tryd.prog 9 (plainElem (H := Unit) Tryd.prog 4) w.heap.size m D) ∧ Below w.heap.size w wr) (fun i _ => s.size - (intOf i).toNat)
  case atStart => exact ⟨0, 0 + 1, _, rfl, Nat.zero_le _, by omega, HK0, HO1, HB1.out⟩
  case round =>
    clear HK0 HO1 HB1
    obtain ⟨n, m, D, rfl, hn, hm, HK, HO, hbw⟩ := hrel
    by_cases hlt : n < s.size
    · have q0 : (n : Int) < (s.size : Int) := by omega
      go_wp2_with fail
      generalize hW : wr = wr0 at *
      clear hW
      go_loopw [5] (fun e wr => ∃ (d m2 : Nat) (D : DataW Unit), e = .int .i64 ((n + 1 + d : Nat) : Int) ∧ n + d ≤ s.size ∧ m2 ≤ m + d ∧ Hid (keysOk (bl s) n d D) ∧ Hid (wr.ownsMap Tryd.prog 9 (plainElem (H := Unit) Tryd.prog 4) w.heap.size m2 D) ∧ Below w.heap.size w wr) (fun e _ => s.size + 1 - (intOf e).toNat)
      case atStart => exact ⟨0, m, D, by congr 1, by omega, by omega, HK, HO, hbw⟩
      case round =>
        clear HK HO hbw D
        obtain ⟨d, m2, D, rfl, hd, hm2, HK, HO, hbw⟩ := hrel
        obtain ⟨e, he⟩ : ∃ e, e = n + 1 + d := ⟨_, rfl⟩
        rw [← he]
        have HEE := Lib.hid he
        have hne : n < e := by omega
        have hed : e ≤ s.size → n + (d + 1) ≤ s.size := by omega
        have hed2 : ¬ e ≤ s.size → d = s.size - n := by omega
        clear he
        by_cases hle : e ≤ s.size
        · have q1 : (e : Int) ≤ (s.size : Int) := by omega
          have q2 : (n : Int) ≤ (e : Int) := by omega
          have hdn := hed hle
          have hkey : keyOf Tryd.prog 9 (.string (s.extract n e)) = some (.string (sub (bl s) n e)) := by
            rw [← bl_sub]; exact keyOk _ (by rw [ByteArray.size_extract]; unfold maxLen; omega)
          have HKN : Hid (keysOk (bl s) n (d + 1) (D.put (.string (sub (bl s) n e)) (.lit (.bool true)))) := Lib.hid (by
            rw [HEE.out]; exact keysOk_put HK.out (by rw [HLn.out, ← HEE.out]; exact hle))
          have hmx : m2 < maxLen := by unfold maxLen; omega
          clear hed hed2
          go_wp2_with (first
            | (at_mapUpdate; refine wpList_mapUpdate_own _ rfl _ _ _ 70 rfl 9 4 keyS Tryd.underlying70 (plainElem (H := Unit) Tryd.prog 4) w.heap.size m2 D rfl HO.out hmx _ _ _ rfl rfl hkey _ [] (plainElem_bool Tryd.underlying4 true) ?_; intro w3 hown3 hgrow3)
            | go_in)
          have B3 : Hid (Below w.heap.size w w3) := Lib.hid (hbw.grown hgrow3 hbw.size (fun j hj => by cases hj; exact Nat.le_refl _))
          have HO3 := Lib.hid hown3
          clear hown3 hgrow3 hkey hmx
          go_wp2_with fail
          go_roundw
          case rel => exact ⟨d + 1, m2 + 1, _, by have := HEE.out; congr 1; omega, by omega, by omega, HKN, HO3, B3.out⟩
          case measure => simp [intOf]; omega
        · have hde : d = s.size - n := hed2 hle
          have F : Hid (keysOk (bl s) (n + 1) 0 D) := Lib.hid (keysOk_next (by rw [HLn.out]; omega) (by
            have := HK.out
            rw [hde, ← HLn.out] at this; exact this))
          have q1 : ¬ (e : Int) ≤ (s.size : Int) := by omega
          have hm3 : m2 ≤ 1 + 60 * (n + 1) := by omega
          clear hde hed hed2
          go_wp2_with fail
          go_roundw
          case rel => exact ⟨n + 1, m2, D, by go_num, by omega, hm3, F, HO, hbw⟩
          case measure => simp [intOf]; omega
    · obtain rfl : n = s.size := by omega
      have q0 : ¬ (s.size : Int) < (s.size : Int) := by omega
      have F : Hid (Maps.size D = cOut (bl s) s.size) := Lib.hid (by rw [HK.out.2.1]; rfl)
      go_wp2_with (first
        | (at_len; refine wpList_len_own _ rfl _ 70 rfl 9 4 Tryd.underlying70 (plainElem (H := Unit) Tryd.prog 4) w.heap.size m D rfl HO.out ?_)
        | go_in)
      go_ret
      exact ⟨by rw [← F.out]; rfl, hbw⟩
end Go.Proofs.YtldkghfnlkbmpaaDoor
