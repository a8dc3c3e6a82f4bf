/-
  Parts with a period; GreatestPower, of the program and of the reference.
-/
import Derived.Test.YtldkghfnlkbmpaaDoorLongOk
import Derived.Test.YtldkghfnlkbmpaaDoorOwn
namespace Go.Proofs.YtldkghfnlkbmpaaDoor
open Go.RowKit
set_option linter.unusedVariables false
def bl (s : ByteArray) : List UInt8 := s.data.toList
theorem bl_len (s : ByteArray) : (bl s).length = s.size := by simp [bl]
theorem longOk_size {s : ByteArray} (h : longOkB 4 s = true) : s.size ≤ 400 := by
  simp [longOkB] at h; exact h.2.1
/-- a part with a period -/
def gb (l : List UInt8) (j : Nat) : UInt8 := l.getD j 0
def perB (l : List UInt8) (a b h : Nat) : Prop := ∀ j, a + h ≤ j → j < b → gb l j = gb l (j - h)
/-- the n-th power of a part of length h ends at e -/
def powAt (n : Nat) (l : List UInt8) (e h : Nat) : Prop := n * h ≤ e ∧ perB l (e - n * h) e h
/-- powers that are found among those that were looked at -/
def powIn (n : Nat) (l : List UInt8) (h i : Nat) : Prop := ∃ h' e', 1 ≤ h' ∧ e' ≤ l.length ∧ (h' < h ∨ (h' = h ∧ e' ≤ i)) ∧ powAt n l e' h'
def hasPow (n : Nat) (l : List UInt8) : Prop := ∃ h e, 1 ≤ h ∧ e ≤ l.length ∧ powAt n l e h
/-- the run of letters before i that are equal to those h before -/
def runAt (l : List UInt8) (h i r : Nat) : Prop := h + r ≤ i ∧ perB l (i - r - h) i h ∧ (h + r = i ∨ gb l (i - r - 1) ≠ gb l (i - r - 1 - h))
def grt (l : List UInt8) (h i g : Nat) : Prop := 1 ≤ g ∧ ∀ n, 2 ≤ n → (n ≤ g ↔ powIn n l h i)
theorem runAt_start (l : List UInt8) (h : Nat) : runAt l h h 0 := ⟨by omega, fun j h1 h2 => by omega, .inl (by omega)⟩
theorem runAt_eq {l : List UInt8} {h i r : Nat} (hr : runAt l h i r) (he : gb l i = gb l (i - h)) : runAt l h (i + 1) (r + 1) := by
  obtain ⟨h1, h2, h3⟩ := hr
  refine ⟨by omega, fun j a b => ?_, ?_⟩
  · by_cases e : j = i
    · rw [e]; exact he
    · exact h2 j (by omega) (by omega)
  · rcases h3 with h3 | h3
    · exact .inl (by omega)
    · exact .inr (by rw [show i + 1 - (r + 1) - 1 = i - r - 1 by omega]; exact h3)
theorem runAt_ne {l : List UInt8} {h i r : Nat} (hr : runAt l h i r) (he : gb l i ≠ gb l (i - h)) : runAt l h (i + 1) 0 := by
  obtain ⟨h1, h2, h3⟩ := hr
  refine ⟨by omega, fun j a b => by omega, .inr ?_⟩
  rw [show i + 1 - 0 - 1 = i by omega]; exact he
/-- a run tells the powers that end there -/
theorem run_pow {l : List UInt8} {h i r n : Nat} (hh : 1 ≤ h) (hr : runAt l h i r) (hn : 2 ≤ n) : n ≤ r / h + 1 ↔ powAt n l i h := by
  obtain ⟨h1, h2, h3⟩ := hr
  obtain ⟨m, rfl⟩ : ∃ m, n = m + 1 := ⟨n - 1, by omega⟩
  have hm : (m + 1) * h = m * h + h := by rw [Nat.add_mul, Nat.one_mul]
  have key : m + 1 ≤ r / h + 1 ↔ m * h ≤ r := by
    rw [Nat.add_le_add_iff_right]
    exact Nat.le_div_iff_mul_le (by omega)
  rw [key]
  unfold powAt
  rw [hm]
  constructor
  · intro hle
    refine ⟨by omega, fun j a b => h2 j (by omega) b⟩
  · rintro ⟨a, b⟩
    rcases Nat.lt_or_ge r (m * h) with hlt | hge
    · exfalso
      rcases h3 with h3 | h3
      · omega
      · exact h3 (b (i - r - 1) (by omega) (by omega))
    · exact hge
theorem grt_step {l : List UInt8} {h i g r : Nat} (hh : 1 ≤ h) (hi : i < l.length) (hg : grt l h i g) (hr : runAt l h (i + 1) r) : grt l h (i + 1) (max g (r / h + 1)) := by
  refine ⟨by have := hg.1; omega, fun n hn => ?_⟩
  have h1 := hg.2 n hn
  have h2 := run_pow hh hr hn
  rw [show n ≤ max g (r / h + 1) ↔ n ≤ g ∨ n ≤ r / h + 1 by omega, h1, h2]
  constructor
  · rintro (⟨h', e', a, b, c, d⟩ | hp)
    · exact ⟨h', e', a, b, by omega, d⟩
    · exact ⟨h, i + 1, hh, by omega, by omega, hp⟩
  · rintro ⟨h', e', a, b, c, d⟩
    by_cases e : h' = h ∧ e' = i + 1
    · obtain ⟨rfl, rfl⟩ := e; exact .inr d
    · exact .inl ⟨h', e', a, b, by omega, d⟩
theorem powAt_two {n : Nat} {l : List UInt8} {e h : Nat} (hn : 2 ≤ n) (hp : powAt n l e h) : 2 * h ≤ e := Nat.le_trans (Nat.mul_le_mul_right h hn) hp.1
theorem grt_start (l : List UInt8) : grt l 1 1 1 := ⟨Nat.le_refl _, fun n hn => by
  constructor
  · intro h; omega
  · rintro ⟨h', e', a, b, c, d⟩
    have := powAt_two hn d
    omega⟩
theorem grt_next {l : List UInt8} {h g : Nat} (hg : grt l h l.length g) : grt l (h + 1) (h + 1) g := ⟨hg.1, fun n hn => by
  rw [hg.2 n hn]
  constructor
  · rintro ⟨h', e', a, b, c, d⟩
    exact ⟨h', e', a, b, by omega, d⟩
  · rintro ⟨h', e', a, b, c, d⟩
    have := powAt_two hn d
    exact ⟨h', e', a, b, by omega, d⟩⟩
theorem grt_done {l : List UInt8} {h g : Nat} (hg : grt l h h g) (hh : l.length ≤ h) : 1 ≤ g ∧ ∀ n, 2 ≤ n → (n ≤ g ↔ hasPow n l) := ⟨hg.1, fun n hn => by
  rw [hg.2 n hn]
  constructor
  · rintro ⟨h', e', a, b, c, d⟩
    exact ⟨h', e', a, b, d⟩
  · rintro ⟨h', e', a, b, d⟩
    have := powAt_two hn d
    exact ⟨h', e', a, b, by omega, d⟩⟩
theorem wrap64_small {x : Int} (h1 : -9223372036854775808 ≤ x) (h2 : x ≤ 9223372036854775807) : wrap64 x = x := by unfold wrap64; omega
theorem gb_byte {s : ByteArray} {j : Nat} (h : j < s.size) : gb (bl s) j = s[j] := by
  unfold gb bl
  rw [List.getD_eq_getElem?_getD, List.getElem?_eq_getElem (by simpa using h)]
  simp [ByteArray.getElem_eq_getElem_data]
set_option maxRecDepth 20000 in
set_option maxHeartbeats 2000000 in
theorem greatestPower_any (s : ByteArray) (w : World) (hok : longOkB 4 s = true) (hne : 1 ≤ s.size) :
    Calls Tryd.prog 44 #[.string s] w fun e w' => ∃ g : Nat, (1 ≤ g ∧ ∀ n, 2 ≤ n → (n ≤ g ↔ hasPow n (bl s))) ∧ e = .returned (.int .i64 ((g : Nat) : Int)) ∧ Below w.heap.size w w' := by
  have hsz := longOk_size hok
  have HLO := Lib.hid (fun W => implLongOk_any 4 s W (by unfold maxLen; omega))
  rw [hok] at HLO
  have hs0 : (s.toList == ([] : List UInt8)) = false := by
    rw [ByteArray.toList_eq]
    cases h : s.data.toList with
    | nil =>
      have : s.data.toList.length = 0 := by rw [h]; rfl
      rw [Array.length_toList, ByteArray.size_data] at this; omega
    | cons => rfl
  have hs1 : s.toList ≠ ([] : List UInt8) := by
    intro h; rw [h] at hs0; cases hs0
  have HS := Lib.hid (grt_start (bl s))
  have HL := Lib.hid (bl_len s)
  go_enter Tryd.func44, Tryd.ntmps44
  go_wp2_with fail
  refine (HLO.out _).mono ?_
  rintro e w2 ⟨rfl, rfl⟩
  clear HLO hok
  go_wp2_with fail
  go_loopw [3, 4] (fun g h wr => ∃ gn hn : Nat, g = .int .i64 ((gn : Nat) : Int) ∧ h = .int .i64 ((hn : Nat) : Int) ∧ 1 ≤ hn ∧ hn ≤ s.size ∧ gn ≤ 401 ∧ Hid (grt (bl s) hn hn gn) ∧ Below w.heap.size w wr) (fun _ h _ => s.size - (intOf h).toNat)
  case atStart => exact ⟨1, 1, rfl, rfl, by omega, hne, by omega, HS, Below.refl _ _⟩
  case round =>
    clear HS
    obtain ⟨gn, hn, rfl, rfl, hh1, hhs, hg4, HG, hbw⟩ := hrel
    by_cases hlt : hn < s.size
    · have q0 : (hn : Int) < (s.size : Int) := by omega
      have HR := Lib.hid (runAt_start (bl s) hn)
      go_wp2_with fail
      go_loopw [3, 5, 6] (fun g r i wr => ∃ gm rn i' : Nat, g = .int .i64 ((gm : Nat) : Int) ∧ r = .int .i64 ((rn : Nat) : Int) ∧ i = .int .i64 ((i' : Nat) : Int) ∧ hn ≤ i' ∧ i' ≤ s.size ∧ rn ≤ i' ∧ gm ≤ 401 ∧ Hid (grt (bl s) hn i' gm) ∧ Hid (runAt (bl s) hn i' rn) ∧ Below w.heap.size w wr) (fun _ _ i _ => s.size - (intOf i).toNat)
      case atStart => exact ⟨gn, 0, hn, rfl, rfl, rfl, by omega, hhs, by omega, hg4, HG, HR, hbw⟩
      case round =>
        clear HR HG hbw
        obtain ⟨gm, rn, i', rfl, rfl, rfl, hi1, his, hri, hg5, HG, HR, hbw⟩ := hrel
        by_cases hlt2 : i' < s.size
        · have q1 : (i' : Int) < (s.size : Int) := by omega
          have q2 : (i' : Int) - (hn : Int) = ((i' - hn : Nat) : Int) := by omega
          have q3 : i' - hn < s.size := by omega
          have q4 : ((i' - hn : Nat) : Int) < (s.size : Int) := by omega
          have q5 : (0 : Int) ≤ ((i' - hn : Nat) : Int) := by omega
          have e1 := gb_byte hlt2
          have e2 := gb_byte q3
          have hz : (hn : Int) ≠ 0 := by omega
          have HE : Hid (s[i'].toNat = s[i' - hn].toNat ↔ gb (bl s) i' = gb (bl s) (i' - hn)) := Lib.hid (by rw [e1, e2]; exact UInt8.toNat_inj)
          clear e1 e2
          go_wp2_with fail
          by_cases hxy : s[i'].toNat = s[i' - hn].toNat
          · have HR2 := Lib.hid (runAt_eq HR.out (HE.out.1 hxy))
            have HG2 := Lib.hid (grt_step hh1 (by rw [HL.out]; exact hlt2) HG.out HR2.out)
            have hbq : (((s[i'].toNat : Nat) : Int) != ((s[i' - hn].toNat : Nat) : Int)) = false := by rw [hxy]; simp
            go_quiet (fail)
            have hb2 := below_drewN hbw nq
            clear hbq hxy HE hbw
            go_wp2_with fail
            have hdl : (rn + 1) / hn ≤ rn + 1 := Nat.div_le_self _ _
            have hd : ((rn : Int) + 1) / (hn : Int) = (((rn + 1) / hn : Nat) : Int) := by rw [Int.natCast_ediv]; rfl
            have hdb : (rn + 1) / hn ≤ 400 := by omega
            have hwr : wrap64 (((rn : Int) + 1) / (hn : Int) + 1) = (((rn + 1) / hn + 1 : Nat) : Int) := by
              rw [hd]
              clear HG2 hd
              generalize (rn + 1) / hn = d at *
              rw [wrap64_small (by omega) (by omega)]; omega
            clear hd
            go_roundw
            case rel => exact ⟨max gm ((rn + 1) / hn + 1), rn + 1, i' + 1, by rw [hwr]; clear HG2 hwr; generalize (rn + 1) / hn = d at *; congr 1; omega, by go_num, by go_num, by omega, by omega, by omega, by omega, HG2, HR2, hb2⟩
            case measure => simp [intOf]; omega
          · have HR2 := Lib.hid (runAt_ne HR.out (fun h => hxy (HE.out.2 h)))
            have HG2 := Lib.hid (grt_step hh1 (by rw [HL.out]; exact hlt2) HG.out HR2.out)
            have hbq : (((s[i'].toNat : Nat) : Int) != ((s[i' - hn].toNat : Nat) : Int)) = true := by simp; omega
            go_quiet (fail)
            have hb2 := below_drewN hbw nq
            clear hbq hxy HE hbw
            go_wp2_with fail
            go_roundw
            case rel => exact ⟨max gm 1, 0, i' + 1, by congr 1; omega, rfl, by go_num, by omega, by omega, by omega, by omega, by have := HG2; rw [Nat.zero_div] at this; exact this, HR2, hb2⟩
            case measure => simp [intOf]; omega
        · obtain rfl : i' = s.size := by omega
          have F := Lib.hid (grt_next (by rw [HL.out]; exact HG.out))
          have q1 : ¬ (s.size : Int) < (s.size : Int) := by omega
          go_wp2_with fail
          go_roundw
          case rel => exact ⟨gm, hn + 1, rfl, by go_num, by omega, by omega, hg5, F, hbw⟩
          case measure => simp [intOf]; omega
    · have F := Lib.hid (grt_done HG.out (by rw [HL.out]; omega))
      have q0 : ¬ (hn : Int) < (s.size : Int) := by omega
      go_wp2_with fail
      go_ret
      exact ⟨gn, F.out, rfl, hbw⟩
set_option maxRecDepth 20000 in
set_option maxHeartbeats 2000000 in
theorem specGreatestPower_any (s : ByteArray) (w : World) (hok : longOkB 4 s = true) (hne : 1 ≤ s.size) :
    Calls Tryd.prog 40 #[.string s] w fun e w' => ∃ g : Nat, (1 ≤ g ∧ ∀ n, 2 ≤ n → (n ≤ g ↔ hasPow n (bl s))) ∧ e = .returned (.int .i64 ((g : Nat) : Int)) ∧ Below w.heap.size w w' := by
  have hsz := longOk_size hok
  have HLO := Lib.hid (fun W => specLongOk_any 4 s W (by unfold maxLen; omega))
  rw [hok] at HLO
  have hs0 : (s.toList == ([] : List UInt8)) = false := by
    rw [ByteArray.toList_eq]
    cases h : s.data.toList with
    | nil =>
      have : s.data.toList.length = 0 := by rw [h]; rfl
      rw [Array.length_toList, ByteArray.size_data] at this; omega
    | cons => rfl
  have hs1 : s.toList ≠ ([] : List UInt8) := by
    intro h; rw [h] at hs0; cases hs0
  have HS := Lib.hid (grt_start (bl s))
  have HL := Lib.hid (bl_len s)
  go_enter Tryd.func40, Tryd.ntmps40
  go_wp2_with fail
  refine (HLO.out _).mono ?_
  rintro e w2 ⟨rfl, rfl⟩
  clear HLO hok
  go_wp2_with fail
  go_loopw [3, 4] (fun g h wr => ∃ gn hn : Nat, g = .int .i64 ((gn : Nat) : Int) ∧ h = .int .i64 ((hn : Nat) : Int) ∧ 1 ≤ hn ∧ hn ≤ s.size + 1 ∧ gn ≤ 401 ∧ Hid (grt (bl s) hn hn gn) ∧ Below w.heap.size w wr) (fun _ h _ => s.size + 1 - (intOf h).toNat)
  case atStart => exact ⟨1, 1, rfl, rfl, by omega, by omega, by omega, HS, Below.refl _ _⟩
  case round =>
    clear HS
    obtain ⟨gn, hn, rfl, rfl, hh1, hhs, hg4, HG, hbw⟩ := hrel
    by_cases hlt : hn ≤ s.size
    · have q0 : (hn : Int) ≤ (s.size : Int) := by omega
      have HR := Lib.hid (runAt_start (bl s) hn)
      go_wp2_with fail
      go_loopw [3, 5, 6] (fun g r i wr => ∃ gm rn i' : Nat, g = .int .i64 ((gm : Nat) : Int) ∧ r = .int .i64 ((rn + hn : Nat) : Int) ∧ i = .int .i64 ((i' : Nat) : Int) ∧ hn ≤ i' ∧ i' ≤ s.size ∧ rn ≤ i' ∧ gm ≤ 401 ∧ Hid (grt (bl s) hn i' gm) ∧ Hid (runAt (bl s) hn i' rn) ∧ Below w.heap.size w wr) (fun _ _ i _ => s.size - (intOf i).toNat)
      case atStart => exact ⟨gn, 0, hn, rfl, by rw [Nat.zero_add], rfl, by omega, by omega, by omega, hg4, HG, HR, hbw⟩
      case round =>
        clear HR HG hbw
        obtain ⟨gm, rn, i', rfl, rfl, rfl, hi1, his, hri, hg5, HG, HR, hbw⟩ := hrel
        by_cases hlt2 : i' < s.size
        · have q1 : (i' : Int) < (s.size : Int) := by omega
          have q2 : (i' : Int) - (hn : Int) = ((i' - hn : Nat) : Int) := by omega
          have q3 : i' - hn < s.size := by omega
          have q4 : ((i' - hn : Nat) : Int) < (s.size : Int) := by omega
          have q5 : (0 : Int) ≤ ((i' - hn : Nat) : Int) := by omega
          have e1 := gb_byte hlt2
          have e2 := gb_byte q3
          have hz : (hn : Int) ≠ 0 := by omega
          have HE : Hid (s[i'].toNat = s[i' - hn].toNat ↔ gb (bl s) i' = gb (bl s) (i' - hn)) := Lib.hid (by rw [e1, e2]; exact UInt8.toNat_inj)
          clear e1 e2
          go_wp2_with fail
          by_cases hxy : s[i'].toNat = s[i' - hn].toNat
          · have HR2 := Lib.hid (runAt_eq HR.out (HE.out.1 hxy))
            have HG2 := Lib.hid (grt_step hh1 (by rw [HL.out]; exact hlt2) HG.out HR2.out)
            have hbq : (((s[i'].toNat : Nat) : Int) == ((s[i' - hn].toNat : Nat) : Int)) = true := by rw [hxy]; simp
            go_quiet (fail)
            have hb2 := below_drewN hbw nq
            clear hbq hxy HE hbw
            go_wp2_with fail
            have hdl : (rn + 1) / hn ≤ rn + 1 := Nat.div_le_self _ _
            have hdd : ((rn : Int) + (hn : Int) + 1) / (hn : Int) = (((rn + 1) / hn + 1 : Nat) : Int) := by
              rw [← Nat.add_div_right (rn + 1) (show 0 < hn by omega), Int.natCast_ediv]
              congr 1; omega
            have hdb : (rn + 1) / hn ≤ 400 := by omega
            go_roundw
            case rel => exact ⟨max gm ((rn + 1) / hn + 1), rn + 1, i' + 1, by rw [hdd]; clear HG2 hdd; generalize (rn + 1) / hn = d at *; congr 1; split <;> omega, by congr 1; omega, by go_num, by omega, by omega, by omega, by omega, HG2, HR2, hb2⟩
            case measure => simp [intOf]; omega
          · have HR2 := Lib.hid (runAt_ne HR.out (fun h => hxy (HE.out.2 h)))
            have HG2 := Lib.hid (grt_step hh1 (by rw [HL.out]; exact hlt2) HG.out HR2.out)
            have hbq : (((s[i'].toNat : Nat) : Int) == ((s[i' - hn].toNat : Nat) : Int)) = false := by rw [beq_eq_false_iff_ne]; omega
            go_quiet (fail)
            have hb2 := below_drewN hbw nq
            clear hbq hxy HE hbw
            go_wp2_with fail
            have hd1 : wrap64 ((hn : Int) / (hn : Int)) = 1 := by rw [Int.ediv_self (by omega)]; exact wrap64_small (by omega) (by omega)
            go_roundw
            case rel => exact ⟨max gm 1, 0, i' + 1, by rw [hd1]; congr 1; split <;> omega, by congr 1; omega, by go_num, by omega, by omega, by omega, by omega, by have := HG2; rw [Nat.zero_div] at this; exact this, HR2, hb2⟩
            case measure => simp [intOf]; omega
        · obtain rfl : i' = s.size := by omega
          have F := Lib.hid (grt_next (by rw [HL.out]; exact HG.out))
          have q1 : ¬ (s.size : Int) < (s.size : Int) := by omega
          go_wp2_with fail
          go_roundw
          case rel => exact ⟨gm, hn + 1, rfl, by go_num, by omega, by omega, hg5, F, hbw⟩
          case measure => simp [intOf]; omega
    · have F := Lib.hid (grt_done HG.out (by rw [HL.out]; omega))
      have q0 : ¬ (hn : Int) ≤ (s.size : Int) := by omega
      go_wp2_with fail
      go_ret
      exact ⟨gn, F.out, rfl, hbw⟩
end Go.Proofs.YtldkghfnlkbmpaaDoor
