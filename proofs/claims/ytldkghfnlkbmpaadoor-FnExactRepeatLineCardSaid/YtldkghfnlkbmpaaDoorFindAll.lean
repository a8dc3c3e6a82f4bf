/-
  The reference's search for a part of a word.
-/
import Derived.Test.YtldkghfnlkbmpaaDoorPeriod2
namespace Go.Proofs.YtldkghfnlkbmpaaDoor
open Go.RowKit
set_option linter.unusedVariables false
/-- what is found among the first i letters: the first one is told -/
def fnd (p l : List UInt8) (i : Nat) (xs : List Nat) : Prop := xs.length ≤ i ∧ ((xs.length = 0 ∧ ∀ e, e ≤ i → ¬ occ p l e) ∨ (1 ≤ xs.length ∧ ∃ e, e ≤ i ∧ occ p l e ∧ xs.getD 0 0 + p.length = e ∧ ∀ e', e' < e → ¬ occ p l e'))
theorem fnd_zero {p l : List UInt8} (hp : 1 ≤ p.length) : fnd p l 0 [] := ⟨Nat.le_refl _, .inl ⟨rfl, fun e he h => by have := h.1; omega⟩⟩
theorem fnd_no {p l : List UInt8} {i : Nat} {xs : List Nat} (h : fnd p l i xs) (hn : ¬ occ p l (i + 1)) : fnd p l (i + 1) xs := by
  obtain ⟨a, b⟩ := h
  refine ⟨by omega, ?_⟩
  rcases b with ⟨c, d⟩ | ⟨c, e, d1, d2, d3, d4⟩
  · refine .inl ⟨c, fun e he => ?_⟩
    by_cases g : e = i + 1
    · rw [g]; exact hn
    · exact d e (by omega)
  · exact .inr ⟨c, e, by omega, d2, d3, d4⟩
theorem fnd_yes {p l : List UInt8} {i v : Nat} {xs : List Nat} (h : fnd p l i xs) (ho : occ p l (i + 1)) (hv : v + p.length = i + 1) : fnd p l (i + 1) (xs ++ [v]) := by
  obtain ⟨a, b⟩ := h
  refine ⟨by rw [List.length_append, List.length_singleton]; omega, .inr ⟨by simp, ?_⟩⟩
  rcases b with ⟨c, d⟩ | ⟨c, e, d1, d2, d3, d4⟩
  · have : xs = [] := List.eq_nil_of_length_eq_zero c
    subst this
    exact ⟨i + 1, Nat.le_refl _, ho, hv, fun e' he => d e' (by omega)⟩
  · refine ⟨e, by omega, d2, ?_, d4⟩
    rw [List.getD_eq_getElem?_getD, List.getElem?_append_left (by omega), ← List.getD_eq_getElem?_getD]
    exact d3
def RetFind (p l : List UInt8) (n : Nat) (w : World) (e : Ending) (w' : World) : Prop := ∃ xs : List Nat, fnd p l n xs ∧ RetSl 3 1 xs.length (natVals xs) w e w'
theorem l21Ok_any (s : ByteArray) (w : World) (hs : s.size ≤ maxLen) : Calls Tryd.prog 39 #[.string s] w fun e w' => e = .returned (.bool (longOkB 4 s)) ∧ w = w' := by
  have HL := Lib.hid (fun W => specLongOk_any 4 s W hs)
  generalize longOkB 4 s = b at *
  go_enter Tryd.func39, Tryd.ntmps39
  go_wp2_with fail
  refine (HL.out _).mono ?_
  rintro e w' ⟨rfl, rfl⟩
  go_wp2_with fail
  go_ret
  exact ⟨rfl, rfl⟩
set_option maxRecDepth 20000 in
set_option maxHeartbeats 4000000 in
theorem findAll_any (s q : ByteArray) (w : World) (hok : longOkB 4 s = true) (hokq : longOkB 4 q = true) (hne : 1 ≤ q.size) :
    Calls Tryd.prog 51 #[.string s, .string q] w (RetFind (bl q) (bl s) s.size w) := by
  have hsz := longOk_size hok
  have hqz := longOk_size hokq
  have HL1 := Lib.hid (fun W => l21Ok_any s W (by unfold maxLen; omega))
  have HL2 := Lib.hid (fun W => l21Ok_any q W (by unfold maxLen; omega))
  rw [hok] at HL1
  rw [hokq] at HL2
  have HT := Lib.hid (fun W => l21Table_any q W hqz)
  have hs0 : (q.toList == ([] : List UInt8)) = false := by
    rw [ByteArray.toList_eq]
    cases h : q.data.toList with
    | nil =>
      have : q.data.toList.length = 0 := by rw [h]; rfl
      rw [Array.length_toList, ByteArray.size_data] at this; omega
    | cons => rfl
  have hs1 : q.toList ≠ ([] : List UInt8) := by
    intro h; rw [h] at hs0; cases hs0
  have HQL := Lib.hid (bl_len q)
  have HZ := Lib.hid (fnd_zero (p := bl q) (l := bl s) (by rw [bl_len]; exact hne))
  clear hok hokq
  go_enter Tryd.func51, Tryd.ntmps51
  go_wp2_with (first
    | (go_at_call 39; (with_reducible refine (HL1.out _).mono ?_); rintro e w' ⟨rfl, rfl⟩)
    | (go_at_call 39; (with_reducible refine (HL2.out _).mono ?_); rintro e w' ⟨rfl, rfl⟩))
  refine (HT.out _).mono ?_
  rintro e w2 ⟨T, ⟨hTl, hTo⟩, a, c, rfl, hoT, hb2⟩
  have HO := Lib.hid hoT
  have HTo := Lib.hid hTo
  have HTl := Lib.hid hTl
  have B2 := Lib.hid hb2
  have HS : Hid (Bld 3 1 w2 (w2.alloc (.cells #[] 3)) (.slice (some ⟨w2.heap.size, 0, none⟩) 0 0) 0 (natVals [])) := Lib.hid (Bld.empty 3 1 w2)
  clear hoT hTo hTl hb2 HT
  go_wp2_with fail
  go_loopw [6, 7, 8] (fun o k i wr => ∃ (n kn : Nat) (xs : List Nat), i = .int .i64 ((n : Nat) : Int) ∧ k = .int .i64 ((kn : Nat) : Int) ∧ n ≤ s.size ∧ Hid (isM (bl q) (bl s) n kn) ∧ Hid (fnd (bl q) (bl s) n xs) ∧ Bld 3 1 w2 wr o xs.length (natVals xs)) (fun _ _ i _ => s.size - (intOf i).toNat)
  case atStart => exact ⟨0, 0, [], rfl, rfl, Nat.zero_le _, Lib.hid (isM_zero _ _), HZ, HS.out⟩
  case round =>
    clear HS HZ
    obtain ⟨n, kn, xs, rfl, rfl, hn, HM, HF, hbd⟩ := hrel
    obtain ⟨a3, c3, rfl⟩ := owns_form hbd.1
    have HB := Lib.hid hbd
    have hxl : xs.length ≤ n := HF.out.1
    clear hbd
    by_cases hlt : n < s.size
    · have q0 : (n : Int) < (s.size : Int) := by omega
      have HSt := Lib.hid (seekM_start HM.out)
      have hkn : kn ≤ q.size := by have := HM.out.1.2.1; rw [HQL.out] at this; exact this
      have FN : Hid (∀ (k' : Nat) (x : Int) (W : World), x = ((k' : Nat) : Int) → isM (bl q) (bl s) (n + 1) k' → k' ≠ q.size → Bld 3 1 w2 W (.slice a3 xs.length c3) xs.length (natVals xs) → ∃ (n' kn' : Nat) (xs' : List Nat), Value.int .i64 ((n : Int) + 1) = .int .i64 ((n' : Nat) : Int) ∧ Value.int .i64 x = .int .i64 ((kn' : Nat) : Int) ∧ n' ≤ s.size ∧ Hid (isM (bl q) (bl s) n' kn') ∧ Hid (fnd (bl q) (bl s) n' xs') ∧ Bld 3 1 w2 W (.slice a3 xs.length c3) xs'.length (natVals xs')) := Lib.hid (fun k' x W hx hk hne hb => by
        subst hx
        exact ⟨n + 1, k', xs, by congr 1, rfl, by omega, Lib.hid hk, Lib.hid (fnd_no HF.out (fun h => hne (by rw [← HQL.out]; exact (isM_occ hk).2 h))), hb⟩)
      have FY : Hid (∀ (k' : Nat) (x y : Int) (u : Value) (W : World), x = ((k' : Nat) : Int) → isM (bl q) (bl s) (n + 1) k' → k' = q.size → y = (n : Int) + 1 - x → Bld 3 1 w2 W u (xs.length + 1) (natVals xs ++ [.int .i64 y]) → ∃ (n' kn' : Nat) (xs' : List Nat), Value.int .i64 ((n : Int) + 1) = .int .i64 ((n' : Nat) : Int) ∧ Value.int .i64 x = .int .i64 ((kn' : Nat) : Int) ∧ n' ≤ s.size ∧ Hid (isM (bl q) (bl s) n' kn') ∧ Hid (fnd (bl q) (bl s) n' xs') ∧ Bld 3 1 w2 W u xs'.length (natVals xs')) := Lib.hid (fun k' x y u W hx hk he hy hb => by
        subst hx
        have hkb := hk.1.1
        have ho := (isM_occ hk).1 (by rw [HQL.out]; exact he)
        refine ⟨n + 1, k', xs ++ [n + 1 - k'], by congr 1, rfl, by omega, Lib.hid hk, Lib.hid (fnd_yes HF.out ho (by rw [HQL.out]; omega)), ?_⟩
        rw [List.length_append, List.length_singleton, natVals_snoc, show (((n + 1 - k' : Nat)) : Int) = y by omega]
        exact hb)
      clear HM
      go_wp2_with fail
      generalize hW : wr = wr0 at *
      clear hW
      go_loopw [7] (fun k wr => ∃ kn : Nat, k = .int .i64 ((kn : Nat) : Int) ∧ kn ≤ q.size ∧ Hid (seekM (bl q) (bl s) n kn) ∧ Bld 3 1 w2 wr (.slice a3 xs.length c3) xs.length (natVals xs)) (fun k _ => (intOf k).toNat)
      case atStart => exact ⟨kn, rfl, hkn, HSt, HB.out⟩
      case round =>
        clear HSt HB hkn
        obtain ⟨k2, rfl, hk2, HK, hbd⟩ := hrel
        have HB := Lib.hid hbd
        clear hbd
        have hkm : k2 ≤ n := HK.out.1.1
        by_cases h0 : 0 < k2
        · have p0 : (0 : Int) < (k2 : Int) := by omega
          by_cases hfu : k2 = q.size
          · have p2 : ((k2 : Int) == (q.size : Int)) = true := by rw [beq_iff_eq]; omega
            have HFU := Lib.hid hfu
            clear hfu
            have hTl := HTl.out
            obtain ⟨b, hba, hc⟩ := natCell (owns_later HO.out HB.out.2) (j := k2 - 1) (by omega)
            subst hba
            have hm := HTo.out (k2 - 1) (by omega)
            rw [show k2 - 1 + 1 = k2 by omega] at hm
            have F := Lib.hid (seekM_next HK.out (.inl (by rw [HQL.out]; exact HFU.out)) hm)
            have hml : T.getD (k2 - 1) 0 < k2 := hm.1.1
            clear hm hTl
            generalize T.getD (k2 - 1) 0 = m at *
            have hj3 : (k2 : Int) - 1 = ((k2 - 1 : Nat) : Int) := by omega
            have hj4 : ((k2 - 1 : Nat) : Int) < (q.size : Int) := by omega
            have hj5 : k2 - 1 < q.size := by omega
            have HCD : Hid (∀ N, (wr.drewN N).cell? ⟨b, k2 - 1, none⟩ = some (.int .i64 (m : Int))) := Lib.hid (fun N => hc)
            go_wp2_with fail
            go_quiet (fail)
            have hc2 := HCD.out nq
            have HB2 := Lib.hid (HB.out.later (below_drewN (Below.refl _ _) nq))
            clear HB hc
            go_wp2_with fail
            go_roundw
            case rel => exact ⟨m, rfl, by omega, F, HB2.out⟩
            case measure => simp [intOf]; omega
          · have p1 : ¬ (k2 : Int) = (q.size : Int) := by omega
            have p2 : ((k2 : Int) == (q.size : Int)) = false := by rw [beq_eq_false_iff_ne]; omega
            have hks : k2 < q.size := by omega
            have p3 : (k2 : Int) < (q.size : Int) := by omega
            have e1 := gb_byte hlt
            have e2 := gb_byte hks
            have HE : Hid (s[n].toNat = q[k2].toNat ↔ gb (bl q) k2 = gb (bl s) n) := Lib.hid (by rw [e1, e2, UInt8.toNat_inj]; exact eq_comm)
            clear e1 e2
            by_cases hxy : s[n].toNat = q[k2].toNat
            · have F := Lib.hid (seekM_yes HK.out (by rw [HQL.out]; omega) (HE.out.1 hxy))
              have hbq : (((s[n].toNat : Nat) : Int) != ((q[k2].toNat : Nat) : Int)) = false := by rw [hxy]; simp
              have hbr : (((s[n].toNat : Nat) : Int) == ((q[k2].toNat : Nat) : Int)) = true := by rw [hxy]; simp
              by_cases hfull : k2 + 1 = q.size
              · have r0 : (((k2 : Int) + 1 : Int) == (q.size : Int)) = true := by rw [beq_iff_eq]; omega
                have HFL := Lib.hid hfull
                clear hfull
                go_wp2_with fail
                go_quiet (fail)
                replace HB := Lib.hid (HB.out.later (below_drewN (Below.refl _ _) nq))
                go_wp2_with fail
                go_quiet (fail)
                have HB2 := Lib.hid (HB.out.later (below_drewN (Below.refl _ _) nq))
                rw [World.drewN_drewN] at HB2
                clear hbq hbr HE hxy HB
                go_wp2_with (at_builtin; refine wpList_app1 rfl _ _ rfl Tryd.underlying22 Tryd.infoInt rfl (by decide) rfl HB2.out rfl rfl ?c11 ?c21 ?c31 ?c41)
                case c11 => simp [Value.oneCell']
                case c21 => unfold maxLen; omega
                case c31 => omega
                intro v3 w3 hb3
                have F3 := Lib.hid (FY.out (k2 + 1) ((k2 : Int) + 1) _ _ _ (by omega) F.out HFL.out (by omega) hb3)
                clear hb3 FY FN
                go_wp2_with fail
                go_roundw
                case rel => exact F3.out
                case measure => simp [intOf]; omega
              · have r0 : (((k2 : Int) + 1 : Int) == (q.size : Int)) = false := by rw [beq_eq_false_iff_ne]; omega
                have r1 : ¬ ((k2 : Int) + 1 : Int) = (q.size : Int) := by omega
                go_wp2_with fail
                go_quiet (fail)
                replace HB := Lib.hid (HB.out.later (below_drewN (Below.refl _ _) nq))
                go_wp2_with fail
                go_quiet (fail)
                have HB2 := Lib.hid (HB.out.later (below_drewN (Below.refl _ _) nq))
                rw [World.drewN_drewN] at HB2
                have F3 := Lib.hid (FN.out (k2 + 1) ((k2 : Int) + 1) _ (by omega) F.out hfull HB2.out)
                clear hbq hbr HE hxy HB FY FN
                go_wp2_with fail
                go_roundw
                case rel => exact F3.out
                case measure => simp [intOf]; omega
            · have hbq : (((s[n].toNat : Nat) : Int) != ((q[k2].toNat : Nat) : Int)) = true := by simp; omega
              have hTl := HTl.out
              obtain ⟨b, hba, hc⟩ := natCell (owns_later HO.out HB.out.2) (j := k2 - 1) (by omega)
              subst hba
              have hm := HTo.out (k2 - 1) (by omega)
              rw [show k2 - 1 + 1 = k2 by omega] at hm
              have F := Lib.hid (seekM_next HK.out (.inr (fun e => hxy (HE.out.2 e))) hm)
              have hml : T.getD (k2 - 1) 0 < k2 := hm.1.1
              clear hm hTl
              generalize T.getD (k2 - 1) 0 = m at *
              have hj3 : (k2 : Int) - 1 = ((k2 - 1 : Nat) : Int) := by omega
              have hj4 : ((k2 - 1 : Nat) : Int) < (q.size : Int) := by omega
              have hj5 : k2 - 1 < q.size := by omega
              have HCD : Hid (∀ N, (wr.drewN N).cell? ⟨b, k2 - 1, none⟩ = some (.int .i64 (m : Int))) := Lib.hid (fun N => hc)
              go_wp2_with fail
              go_quiet (fail)
              have hc2 := HCD.out nq
              have HB2 := Lib.hid (HB.out.later (below_drewN (Below.refl _ _) nq))
              clear HB hc
              go_wp2_with fail
              go_roundw
              case rel => exact ⟨m, rfl, by omega, F, HB2.out⟩
              case measure => simp [intOf]; omega
        · obtain rfl : k2 = 0 := by omega
          have hks : 0 < q.size := by omega
          have p3 : (0 : Int) < (q.size : Int) := by omega
          have p4 : ¬ (0 : Int) < 0 := by omega
          have e1 := gb_byte hlt
          have e2 := gb_byte hks
          have HE : Hid (s[n].toNat = q[0].toNat ↔ gb (bl q) 0 = gb (bl s) n) := Lib.hid (by rw [e1, e2, UInt8.toNat_inj]; exact eq_comm)
          clear e1 e2
          by_cases hxy : s[n].toNat = q[0].toNat
          · have F := Lib.hid (seekM_yes HK.out (by rw [HQL.out]; omega) (HE.out.1 hxy))
            have hbq : (((s[n].toNat : Nat) : Int) != ((q[0].toNat : Nat) : Int)) = false := by rw [hxy]; simp
            have hbr : (((s[n].toNat : Nat) : Int) == ((q[0].toNat : Nat) : Int)) = true := by rw [hxy]; simp
            by_cases hfull : 0 + 1 = q.size
            · have r0 : ((1 : Int) == (q.size : Int)) = true := by rw [beq_iff_eq]; omega
              have HFL := Lib.hid hfull
              clear hfull
              go_wp2_with fail
              go_quiet (fail)
              replace HB := Lib.hid (HB.out.later (below_drewN (Below.refl _ _) nq))
              go_wp2_with fail
              go_quiet (fail)
              have HB2 := Lib.hid (HB.out.later (below_drewN (Below.refl _ _) nq))
              rw [World.drewN_drewN] at HB2
              clear hbq hbr HE hxy HB
              go_wp2_with (at_builtin; refine wpList_app1 rfl _ _ rfl Tryd.underlying22 Tryd.infoInt rfl (by decide) rfl HB2.out rfl rfl ?c12 ?c22 ?c32 ?c42)
              case c12 => simp [Value.oneCell']
              case c22 => unfold maxLen; omega
              case c32 => omega
              intro v3 w3 hb3
              have F3 := Lib.hid (FY.out (0 + 1) (1) _ _ _ (by omega) F.out HFL.out (by omega) hb3)
              clear hb3 FY FN
              go_wp2_with fail
              go_roundw
              case rel => exact F3.out
              case measure => simp [intOf]; omega
            · have r0 : ((1 : Int) == (q.size : Int)) = false := by rw [beq_eq_false_iff_ne]; omega
              have r1 : ¬ (1 : Int) = (q.size : Int) := by omega
              go_wp2_with fail
              go_quiet (fail)
              replace HB := Lib.hid (HB.out.later (below_drewN (Below.refl _ _) nq))
              go_wp2_with fail
              go_quiet (fail)
              have HB2 := Lib.hid (HB.out.later (below_drewN (Below.refl _ _) nq))
              rw [World.drewN_drewN] at HB2
              have F3 := Lib.hid (FN.out (0 + 1) (1) _ (by omega) F.out hfull HB2.out)
              clear hbq hbr HE hxy HB FY FN
              go_wp2_with fail
              go_roundw
              case rel => exact F3.out
              case measure => simp [intOf]; omega
          · have F := Lib.hid (seekM_no HK.out (fun e => hxy (HE.out.2 e)))
            have hbr : (((s[n].toNat : Nat) : Int) == ((q[0].toNat : Nat) : Int)) = false := by rw [beq_eq_false_iff_ne]; omega
            have r0 : ((0 : Int) == (q.size : Int)) = false := by rw [beq_eq_false_iff_ne]; omega
            have r1 : ¬ (0 : Int) = (q.size : Int) := by omega
            have r2 : ¬ 0 = q.size := by omega
            go_wp2_with fail
            go_quiet (fail)
            replace HB := Lib.hid (HB.out.later (below_drewN (Below.refl _ _) nq))
            go_wp2_with fail
            go_quiet (fail)
            have HB2 := Lib.hid (HB.out.later (below_drewN (Below.refl _ _) nq))
            rw [World.drewN_drewN] at HB2
            have F3 := Lib.hid (FN.out 0 0 _ rfl F.out r2 HB2.out)
            clear hbr HE hxy HB FY FN
            go_wp2_with fail
            go_roundw
            case rel => exact F3.out
            case measure => simp [intOf]; omega
    · obtain rfl : n = s.size := by omega
      have F : Hid (RetFind (bl q) (bl s) s.size w (.returned (.slice a3 xs.length c3)) wr) := Lib.hid ⟨xs, HF.out, (HB.out.since B2.out).ret⟩
      have q0 : ¬ (s.size : Int) < (s.size : Int) := by omega
      go_wp2_with fail
      go_ret
      exact F.out
end Go.Proofs.YtldkghfnlkbmpaaDoor
