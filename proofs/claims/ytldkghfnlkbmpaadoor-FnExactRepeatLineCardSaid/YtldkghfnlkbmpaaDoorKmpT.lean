/-
  The reference's table of longest borders.
-/
import Derived.Test.YtldkghfnlkbmpaaDoorKmp
import Derived.Test.YtldkghfnlkbmpaaDoorBuild
namespace Go.Proofs.YtldkghfnlkbmpaaDoor
open Go.RowKit
set_option linter.unusedVariables false
def natVals (T : List Nat) : List Value := T.map fun k => .int .i64 ((k : Nat) : Int)
theorem natVals_len (T : List Nat) : (natVals T).length = T.length := by simp [natVals]
theorem natVals_snoc (T : List Nat) (k : Nat) : natVals (T ++ [k]) = natVals T ++ [.int .i64 ((k : Nat) : Int)] := by simp [natVals]
/-- a table that a call hands back -/
def RetTab (l : List UInt8) (n : Nat) (w : World) (e : Ending) (w' : World) : Prop := ∃ T : List Nat, (T.length = n ∧ tabOk l T) ∧ RetSl 3 1 n (natVals T) w e w'
theorem natCell {T : TypeId} {w : World} {base : Nat} {a : Option Addr} {n m c : Nat} {xs : List Nat} (h : w.ownsRow base T 1 (.slice a m c) n (natVals xs)) {j : Nat} (hj : j < xs.length) :
    ∃ b, a = some ⟨b, 0, none⟩ ∧ w.cell? ⟨b, j, none⟩ = some (.int .i64 ((xs.getD j 0 : Nat) : Int)) := by
  rcases h.2 with ⟨hv, h0⟩ | ⟨g, cap', cur, hv, hb, hg, hn, hc, hs, ht⟩
  · have := h.1
    rw [h0, natVals_len] at this
    omega
  · simp only [Value.slice.injEq] at hv
    refine ⟨g, hv.1, ?_⟩
    have := cell_of_row w g j cur T (0, 0) hg
    rw [this]
    have hj2 : j < (natVals xs).length := by rw [natVals_len]; exact hj
    have h2 : (natVals xs)[j]? = some (.int .i64 ((xs.getD j 0 : Nat) : Int)) := by
      unfold natVals
      rw [List.getElem?_map, List.getElem?_eq_getElem hj, List.getD_eq_getElem?_getD, List.getElem?_eq_getElem hj]; rfl
    rw [← h2, ← ht, List.getElem?_take]
    have h1 := h.1
    rw [if_pos (by omega)]
    simp
set_option maxRecDepth 20000 in
set_option maxHeartbeats 4000000 in
theorem l21Table_any (s : ByteArray) (w : World) (hsz : s.size ≤ 400) :
    Calls Tryd.prog 60 #[.string s] w (RetTab (bl s) s.size w) := by
  have HS := Lib.hid (Bld.empty 3 1 w)
  have HL := Lib.hid (bl_len s)
  go_enter Tryd.func60, Tryd.ntmps60
  go_wp2_with fail
  go_loopw [3, 4, 5] (fun o k i wr => ∃ (n kn : Nat) (T : List Nat), i = .int .i64 ((n : Nat) : Int) ∧ k = .int .i64 ((kn : Nat) : Int) ∧ n ≤ s.size ∧ Hid (T.length = n) ∧ Hid (tabOk (bl s) T) ∧ Hid ((n = 0 ∧ kn = 0) ∨ isLb (bl s) n kn) ∧ Bld 3 1 w wr o n (natVals T)) (fun _ _ i _ => s.size - (intOf i).toNat)
  case atStart => exact ⟨0, 0, [], rfl, rfl, Nat.zero_le _, Lib.hid rfl, Lib.hid (tabOk_nil _), Lib.hid (.inl ⟨rfl, rfl⟩), HS.out⟩
  case round =>
    clear HS
    obtain ⟨n, kn, T, rfl, rfl, hn, HTl, HTo, HK, hbd⟩ := hrel
    obtain ⟨a3, c3, rfl⟩ := owns_form hbd.1
    have HB := Lib.hid hbd
    clear hbd
    by_cases hlt : n < s.size
    · have q0 : (n : Int) < (s.size : Int) := by omega
      have HSt : Hid ((n = 0 ∧ kn = 0) ∨ seekB (bl s) n kn) := Lib.hid (HK.out.imp id seekB_start)
      have hkn : kn ≤ n := by
        rcases HK.out with ⟨a, b⟩ | h
        · omega
        · have := h.1.1; omega
      have FA : Hid (∀ (k' : Nat) (x : Int) (u : Value) (W : World), x = ((k' : Nat) : Int) → isLb (bl s) (n + 1) k' → Bld 3 1 w W u (n + 1) (natVals T ++ [.int .i64 x]) → ∃ (n' kn' : Nat) (T' : List Nat), Value.int .i64 ((n : Int) + 1) = .int .i64 ((n' : Nat) : Int) ∧ Value.int .i64 x = .int .i64 ((kn' : Nat) : Int) ∧ n' ≤ s.size ∧ Hid (T'.length = n') ∧ Hid (tabOk (bl s) T') ∧ Hid ((n' = 0 ∧ kn' = 0) ∨ isLb (bl s) n' kn') ∧ Bld 3 1 w W u n' (natVals T')) := Lib.hid (fun k' x u W hx hk hb => by
        subst hx
        exact ⟨n + 1, k', T ++ [k'], by congr 1, rfl, by omega, Lib.hid (by rw [List.length_append, HTl.out]; rfl), Lib.hid (tabOk_snoc HTo.out (by rw [HTl.out]; exact hk)), Lib.hid (.inr hk), by rw [natVals_snoc]; exact hb⟩)
      clear HK
      go_wp2_with fail
      generalize hW : wr = wr0 at *
      clear hW
      go_loopw [4] (fun k wr => ∃ kn : Nat, k = .int .i64 ((kn : Nat) : Int) ∧ kn ≤ n ∧ Hid ((n = 0 ∧ kn = 0) ∨ seekB (bl s) n kn) ∧ Bld 3 1 w wr (.slice a3 n c3) n (natVals T)) (fun k _ => (intOf k).toNat)
      case atStart => exact ⟨kn, rfl, hkn, HSt, HB.out⟩
      case round =>
        clear HSt HB hkn
        obtain ⟨k2, rfl, hk2, HK, hbd⟩ := hrel
        have HB := Lib.hid hbd
        clear hbd
        by_cases h0 : 0 < k2
        · have hsk : seekB (bl s) n k2 := by
            rcases HK.out with ⟨a, b⟩ | h
            · omega
            · exact h
          have hkn2 : k2 < n := hsk.1.1
          have HSK := Lib.hid hsk
          have p0 : (0 : Int) < (k2 : Int) := by omega
          have p1 : ¬ (n : Int) = 0 := by omega
          have p1' : ((n : Int) == 0) = false := by rw [beq_eq_false_iff_ne]; exact p1
          have p1n : 0 < n := by omega
          have p1'' : (0 : Int) < (n : Int) := by omega
          have hks : k2 < s.size := by omega
          have p2 : (k2 : Int) < (s.size : Int) := by omega
          have e1 := gb_byte hlt
          have e2 := gb_byte hks
          have HE : Hid (s[n].toNat = s[k2].toNat ↔ gb (bl s) k2 = gb (bl s) n) := Lib.hid (by rw [e1, e2, UInt8.toNat_inj]; exact eq_comm)
          clear e1 e2 hsk
          by_cases hxy : s[n].toNat = s[k2].toNat
          · have F := Lib.hid (seekB_yes HSK.out (HE.out.1 hxy))
            have hbq : (((s[n].toNat : Nat) : Int) != ((s[k2].toNat : Nat) : Int)) = false := by rw [hxy]; simp
            have hbr : (((s[n].toNat : Nat) : Int) == ((s[k2].toNat : Nat) : Int)) = true := by rw [hxy]; simp
            go_wp2_with fail
            go_quiet (fail)
            replace HB := Lib.hid (HB.out.later (below_drewN (Below.refl _ _) nq))
            go_wp2_with fail
            go_quiet (fail)
            have HB2 := Lib.hid (HB.out.later (below_drewN (Below.refl _ _) nq))
            rw [World.drewN_drewN] at HB2
            clear hbq hbr HE hxy HB
            go_wp2_with (at_builtin; refine wpList_app1 rfl _ _ rfl Tryd.underlying22 Tryd.infoInt rfl (by decide) rfl HB2.out rfl rfl ?c11 ?c21 ?c31 ?c41)
            case c11 => simp [Value.oneCell']
            case c21 => unfold maxLen; omega
            case c31 => omega
            intro v3 w3 hb3
            have F3 := Lib.hid (FA.out (k2 + 1) _ _ _ (by omega) F.out hb3)
            clear hb3 FA
            go_wp2_with fail
            go_roundw
            case rel => exact F3.out
            case measure => simp [intOf]; omega
          · have hlen : T.length = n := HTl.out
            obtain ⟨b, hba, hc⟩ := natCell HB.out.1 (j := k2 - 1) (by omega)
            subst hba
            have hm := HTo.out (k2 - 1) (by omega)
            rw [show k2 - 1 + 1 = k2 by omega] at hm
            have F := Lib.hid (seekB_next (by rw [HL.out]; omega) HSK.out (fun e => hxy (HE.out.2 e)) hm)
            have hml : T.getD (k2 - 1) 0 < k2 := hm.1.1
            have hbq : (((s[n].toNat : Nat) : Int) != ((s[k2].toNat : Nat) : Int)) = true := by simp; omega
            clear hm hlen
            generalize T.getD (k2 - 1) 0 = m at *
            have hj3 : (k2 : Int) - 1 = ((k2 - 1 : Nat) : Int) := by omega
            have hj4 : ((k2 - 1 : Nat) : Int) < (n : Int) := by omega
            have hj5 : k2 - 1 < n := by omega
            have HCD : Hid (∀ N, (wr.drewN N).cell? ⟨b, k2 - 1, none⟩ = some (.int .i64 (m : Int))) := Lib.hid (fun N => hc)
            go_wp2_with fail
            go_quiet (fail)
            have hc2 := HCD.out nq
            have HB2 := Lib.hid (HB.out.later (below_drewN (Below.refl _ _) nq))
            clear hbq HE hxy HB hc
            go_wp2_with fail
            go_roundw
            case rel => exact ⟨m, rfl, by omega, Lib.hid (.inr F.out), HB2.out⟩
            case measure => simp [intOf]; omega
        · obtain rfl : k2 = 0 := by omega
          have p0 : ¬ (0 : Int) < 0 := by omega
          by_cases hn0 : n = 0
          · have F : Hid (isLb (bl s) (n + 1) 0) := Lib.hid (by rw [hn0]; exact lb_first _)
            have hz : ¬ 0 < n := by omega
            have hz2 : ¬ (0 : Int) < (n : Int) := by omega
            clear hn0
            go_wp2_with fail
            go_quiet (fail)
            replace HB := Lib.hid (HB.out.later (below_drewN (Below.refl _ _) nq))
            go_wp2_with fail
            go_quiet (fail)
            have HB2 := Lib.hid (HB.out.later (below_drewN (Below.refl _ _) nq))
            rw [World.drewN_drewN] at HB2
            clear HB
            go_wp2_with (at_builtin; refine wpList_app1 rfl _ _ rfl Tryd.underlying22 Tryd.infoInt rfl (by decide) rfl HB2.out rfl rfl ?c12 ?c22 ?c32 ?c42)
            case c12 => simp [Value.oneCell']
            case c22 => unfold maxLen; omega
            case c32 => omega
            intro v3 w3 hb3
            have F3 := Lib.hid (FA.out 0 _ _ _ rfl F.out hb3)
            clear hb3 FA
            go_wp2_with fail
            go_roundw
            case rel => exact F3.out
            case measure => simp [intOf]; omega
          · have hsk : seekB (bl s) n 0 := by
              rcases HK.out with ⟨a, b⟩ | h
              · omega
              · exact h
            have HSK := Lib.hid hsk
            have p1n : 0 < n := by omega
            have p1'' : (0 : Int) < (n : Int) := by omega
            have hks : 0 < s.size := by omega
            have p2 : (0 : Int) < (s.size : Int) := by omega
            have e1 := gb_byte hlt
            have e2 := gb_byte hks
            have HE : Hid (s[n].toNat = s[0].toNat ↔ gb (bl s) 0 = gb (bl s) n) := Lib.hid (by rw [e1, e2, UInt8.toNat_inj]; exact eq_comm)
            clear e1 e2 hsk
            by_cases hxy : s[n].toNat = s[0].toNat
            · have F := Lib.hid (seekB_yes HSK.out (HE.out.1 hxy))
              have hbr : (((s[n].toNat : Nat) : Int) == ((s[0].toNat : Nat) : Int)) = true := by rw [hxy]; simp
              go_wp2_with fail
              go_quiet (fail)
              replace HB := Lib.hid (HB.out.later (below_drewN (Below.refl _ _) nq))
              go_wp2_with fail
              go_quiet (fail)
              have HB2 := Lib.hid (HB.out.later (below_drewN (Below.refl _ _) nq))
              rw [World.drewN_drewN] at HB2
              clear hbr HE hxy HB
              go_wp2_with (at_builtin; refine wpList_app1 rfl _ _ rfl Tryd.underlying22 Tryd.infoInt rfl (by decide) rfl HB2.out rfl rfl ?c13 ?c23 ?c33 ?c43)
              case c13 => simp [Value.oneCell']
              case c23 => unfold maxLen; omega
              case c33 => omega
              intro v3 w3 hb3
              have F3 := Lib.hid (FA.out 1 _ _ _ rfl F.out hb3)
              clear hb3 FA
              go_wp2_with fail
              go_roundw
              case rel => exact F3.out
              case measure => simp [intOf]; omega
            · have F := Lib.hid (seekB_no HSK.out (fun e => hxy (HE.out.2 e)))
              have hbr : (((s[n].toNat : Nat) : Int) == ((s[0].toNat : Nat) : Int)) = false := by rw [beq_eq_false_iff_ne]; omega
              go_wp2_with fail
              go_quiet (fail)
              replace HB := Lib.hid (HB.out.later (below_drewN (Below.refl _ _) nq))
              go_wp2_with fail
              go_quiet (fail)
              have HB2 := Lib.hid (HB.out.later (below_drewN (Below.refl _ _) nq))
              rw [World.drewN_drewN] at HB2
              clear hbr HE hxy HB
              go_wp2_with (at_builtin; refine wpList_app1 rfl _ _ rfl Tryd.underlying22 Tryd.infoInt rfl (by decide) rfl HB2.out rfl rfl ?c14 ?c24 ?c34 ?c44)
              case c14 => simp [Value.oneCell']
              case c24 => unfold maxLen; omega
              case c34 => omega
              intro v3 w3 hb3
              have F3 := Lib.hid (FA.out 0 _ _ _ rfl F.out hb3)
              clear hb3 FA
              go_wp2_with fail
              go_roundw
              case rel => exact F3.out
              case measure => simp [intOf]; omega
    · obtain rfl : n = s.size := by omega
      have F : Hid (RetTab (bl s) s.size w (.returned (.slice a3 s.size c3)) wr) := Lib.hid ⟨T, ⟨HTl.out, HTo.out⟩, HB.out.ret⟩
      have q0 : ¬ (s.size : Int) < (s.size : Int) := by omega
      go_wp2_with fail
      go_ret
      exact F.out
end Go.Proofs.YtldkghfnlkbmpaaDoor
