/-
  The least word that is accepted, found by breadth: plain data.
-/
import Derived.Test.YtoddpmdjjgnpgaaGreatDoorGra25
import Derived.Test.YtoddpmdjjgnpgaaGreatDoorGra26
import Derived.Test.YtoddpmdjjgnpgaaGreatDoorGra16
import Derived.Lib.SlicesS
import Derived.Test.YtoddpmdjjgnpgaaGreatDoorGra06
import Derived.Test.YtoddpmdjjgnpgaaGreatDoorGra17
import Derived.Test.YtoddpmdjjgnpgaaGreatDoorGra05
import Derived.Test.YtoddpmdjjgnpgaaGreatDoorGra08
import Derived.Maps.OwnSet
namespace Go.Proofs.YtoddpmdjjgnpgaaGreatDoor
open Go.RowKit
set_option linter.unusedVariables false
def RetIxS (l : List ByteArray) (v : ByteArray) (w : World) (e : Ending) (w' : World) : Prop := ((∃ j : Nat, l[j]? = some v ∧ e = .returned (.int .i64 (j : Nat))) ∨ (v ∉ l ∧ e = .returned (.int .i64 (-1)))) ∧ Below w.heap.size w w'
theorem idx_libS (l : List ByteArray) (v : ByteArray) : (∃ j : Nat, l[j]? = some v ∧ Lib.idxOfS l v = (j : Int)) ∨ (v ∉ l ∧ Lib.idxOfS l v = -1) := by
  by_cases h : v ∈ l
  · left
    have key : ∀ n, n ≤ l.length → (∃ j, j < n ∧ l.getD j ByteArray.empty = v ∧ ∀ i, i < j → l.getD i ByteArray.empty ≠ v) ∨ ∀ i, i < n → l.getD i ByteArray.empty ≠ v := fun n => by
      induction n with
      | zero => intro _; exact .inr fun i hi => by omega
      | succ n ih =>
        intro hn
        rcases ih (by omega) with ⟨j, h1, h2, h3⟩ | h1
        · exact .inl ⟨j, by omega, h2, h3⟩
        · by_cases e : l.getD n ByteArray.empty = v
          · exact .inl ⟨n, by omega, e, h1⟩
          · exact .inr fun i hi => by
              by_cases e2 : i = n
              · subst e2; exact e
              · exact h1 i (by omega)
    rcases key l.length (Nat.le_refl _) with ⟨j, h1, h2, h3⟩ | h1
    · have h4 := Lib.idxOfS_hit l l.length j v h1 (Nat.le_refl _) h2 h3
      rw [List.take_length] at h4
      refine ⟨j, ?_, h4⟩
      rw [List.getD_eq_getElem?_getD, List.getElem?_eq_getElem h1] at h2
      rw [List.getElem?_eq_getElem h1, ← h2]; rfl
    · obtain ⟨i, hi, e⟩ := List.getElem_of_mem h
      exact absurd (by rw [List.getD_eq_getElem?_getD, List.getElem?_eq_getElem hi]; exact e) (h1 i hi)
  · right
    have h4 := Lib.idxOfS_miss l l.length v (fun j hj e => h (by
      rw [← e, List.getD_eq_getElem?_getD, List.getElem?_eq_getElem hj]
      exact List.getElem_mem hj))
    rw [List.take_length] at h4
    exact ⟨h, h4⟩
theorem indexSA (v : ByteArray) (l : List ByteArray) (a : Option Addr) (cap : Nat) (w : World) (hl : StrsIn w a l) (hlen : l.length ≤ 2 ^ 47) :
    Calls Tryz.prog 42 #[.slice a l.length cap, .string v] w (RetIxS l v w) := by
  have key : ∀ e, e = Ending.returned (.int .i64 (Lib.idxOfS l v)) → RetIxS l v w e w := fun e he => by
    refine ⟨?_, Below.refl _ _⟩
    rcases idx_libS l v with ⟨j, h1, h2⟩ | ⟨h1, h2⟩
    · exact .inl ⟨j, h1, by rw [he, h2]⟩
    · exact .inr ⟨h1, by rw [he, h2]⟩
  by_cases h : l = []
  · subst h
    exact (Tryz.slices_Index_string_empty a cap v w).mono fun e w' ⟨h1, h2⟩ => h2 ▸ key e h1
  · obtain ⟨b, off, rfl, hb, hc⟩ := hl.cell (i := 0) (List.length_pos_iff.2 h)
    refine (Tryz.slices_Index_string b off l.length cap l v w (Nat.le_refl _) (by omega) hc).mono fun e w' ⟨h1, h2⟩ => ?_
    rw [List.take_length] at h1
    exact h2 ▸ key e h1
/-- what ReducedAutomaton hands back -/
def RetRed (k : Nat) (R : List RulD) (w : World) (e : Ending) (w' : World) : Prop := (e = .returned (.tuple #[.agg #[.int .i64 0, .slice none 0 0, .slice none 0 0], .bool false]) ∧ Below w.heap.size w w') ∨
  ∃ (aN : Option Addr) (nx : List Int) (cN : Nat) (aF : Option Addr) (fin : List Bool) (cF : Nat), e = .returned (.tuple #[.agg #[.int .i64 (k : Nat), .slice aN nx.length cN, .slice aF fin.length cF], .bool true]) ∧ AutP k nx fin ∧ (∀ v, accA k nx fin 0 v ↔ accD (redD R) redF k ⟨#[]⟩ v) ∧ (∀ m, cntW k nx fin m 0 = paths R k m ⟨#[]⟩) ∧ OwnA w' w.heap.size aN nx cN aF fin cF ∧ Below w.heap.size w w'
set_option maxRecDepth 20000 in
set_option maxHeartbeats 8000000 in
theorem implRed_any (k : Nat) (R : List RulD) (a : Option Addr) (cap : Nat) (w : World) (hl : RulesIn w a R) (hs : sysP (k : Int) R) :
    Calls Tryz.prog 6 #[.agg #[.int .i64 (k : Nat), .slice a R.length cap]] w (RetRed k R w) := by
  obtain ⟨h12, hsz, hk1, hk4⟩ := sys_sizes hs
  have hz : SzR R := fun j hj => by have := hsz j hj; unfold maxLen; omega
  have hlen : R.length ≤ 2 ^ 40 := by omega
  have hk7 := keep7 (sysG_of hs)
  obtain ⟨w1, hw1⟩ : ∃ w1, (w.alloc (.cells #[.int .i64 (k : Nat), .slice a R.length cap] 25)).alloc (.cells #[.int .i64 0, .slice none 0 0, .slice none 0 0] 30) = w1 := ⟨_, rfl⟩
  have HB1 : Hid (Below w.heap.size w w1) := Lib.hid (by rw [← hw1]; exact ((Below.refl _ _).alloc (Nat.le_refl _) _).alloc (by simp) _)
  have HX1 : Hid (w1.heap[w.heap.size]? = some (.cells #[.int .i64 (k : Nat), .slice a R.length cap] 25 (0, 0))) := Lib.hid (by
    rw [← hw1, (alloc_belowS _ _).block _ (by simp)]; exact alloc_at _ _)
  have HZ1 : Hid (w1.heap[w.heap.size + 1]? = some (.cells #[.int .i64 0, .slice none 0 0, .slice none 0 0] 30 (0, 0))) := Lib.hid (by
    rw [← hw1]; have h := alloc_at (w.alloc (.cells #[.int .i64 (k : Nat), .slice a R.length cap] 25)) (.cells #[.int .i64 0, .slice none 0 0, .slice none 0 0] 30); simpa using h)
  have HR1 := Lib.hid (RulesIn.later hl HB1.out)
  have HOK := Lib.hid (implSystemOk_any (k : Nat) R a cap w1 HR1.out hlen hz)
  have HNR := Lib.hid (fun W h => newReader_any (k : Nat) R a cap W h hlen hz)
  have HSY := Lib.hid hs
  have HNX := Lib.hid (fun W p e x h1 h2 hx he => readerNext_any (k : Nat) R p e x a cap W h1 hlen h2 hx he (by omega))
  have hki : k ≤ 4 := by omega
  have hkj : 1 ≤ k := by omega
  clear hl hs hz hsz
  obtain ⟨x0, x1⟩ := sys_cells HX1.out
  go_enter Tryz.func6, Tryz.ntmps6
  go_upto_region 1 with fail
  generalize (w.alloc (.cells #[.int .i64 (k : Nat), .slice a R.length cap] 25)).alloc (.cells #[.int .i64 0, .slice none 0 0, .slice none 0 0] 30) = wg at *
  subst hw1
  go_wp2_with fail
  refine HOK.out.mono ?_
  rintro e w2 ⟨b, hb, rfl, hb2⟩
  obtain rfl : b = true := hb.2 HSY.out
  have HB2 := Lib.hid hb2
  clear hb hb2 x0 x1 HOK
  obtain ⟨x0, x1⟩ := sys_cells (blk_later HX1.out HB2.out)
  go_wp2_with fail
  refine (HNR.out _ (RulesIn.later HR1.out HB2.out)).mono ?_
  rintro e w3 ⟨p, rfl, hrd, hpp, hb3⟩
  have HB13 := Lib.hid (Below.now HB2.out hb3)
  have HRD := Lib.hid hrd
  clear hb3 x0 x1 hrd hpp HNR
  have HB3 := Lib.hid (Below.now HB1.out HB13.out)
  have HX3 := Lib.hid (blk_later HX1.out HB13.out)
  have HZ3 := Lib.hid (blk_later HZ1.out HB13.out)
  have HR3 := Lib.hid (RulesIn.later HR1.out HB13.out)
  have HGZ : Hid (w.heap.size + 1 < w3.heap.size) := Lib.hid (Array.getElem?_eq_some_iff.1 HZ3.out).1
  clear HX1 HZ1 HR1 HB2 HB13
  obtain ⟨x0, -⟩ := sys_cells HX3.out
  have HA0 : Hid (AutS w3 ((w3.alloc (.cells #[.string ⟨#[]⟩] 9)).alloc (.cells #[.int .i64 (k : Nat), .slice none 0 0, .slice none 0 0] 30)) (w3.heap.size + 1) (k : Nat) (.slice none 0 0) (.slice none 0 0) [] [] 9 1 (.slice (some ⟨w3.heap.size, 0, none⟩) 1 1) [(⟨#[]⟩ : ByteArray)].length ([(⟨#[]⟩ : ByteArray)].map Value.string)) := Lib.hid (AutS.start w3 #[.string ⟨#[]⟩] 9 1 rfl _)
  have y0 := (sys_cells (blk_later HX3.out (alloc_belowS w3 (.cells #[.string ⟨#[]⟩] 9)))).1
  go_upto_region 6 with fail
  clear x0 y0
  generalize (w3.alloc (.cells #[.string ⟨#[]⟩] 9)).alloc (.cells #[.int .i64 (k : Nat), .slice none 0 0, .slice none 0 0] 30) = w4 at *
  go_wp2_with fail
  go_loopw [5, 7] (fun vs vi wr => ∃ (i : Nat) (S : List ByteArray) (v uF : Value) (nx : List Int) (fin : List Bool), vi = .int .i64 (i : Nat) ∧ i ≤ S.length ∧ S.length ≤ 80 ∧ Hid (∀ e ∈ S, e.size ≤ 7) ∧ Hid (ExpA (redD R) redF ⟨#[]⟩ k S nx fin i 0) ∧ Hid (AutS w3 wr (w3.heap.size + 1) (k : Nat) v uF nx fin 9 1 vs S.length (S.map Value.string))) (fun _ vi _ => 81 - (intOf vi).toNat)
  case atStart => exact ⟨0, [⟨#[]⟩], _, _, [], [], rfl, by simp, by simp, Lib.hid (fun e he => by rw [List.mem_singleton.1 he]; exact Nat.zero_le _), Lib.hid (ExpA.start _ _ _ _), HA0⟩
  case round =>
    clear HA0
    obtain ⟨i, S, v, uF, nx, fin, rfl, hiS, hS80, HMP, HP, HS⟩ := hrel
    obtain ⟨aS, cS, rfl⟩ := owns_form HS.out.st
    by_cases hlt : i < S.length
    · have hii : (i : Int) < (S.length : Int) := by omega
      have x0 := (sys_cells (blk_later HX3.out HS.out.aut.bel)).1
      generalize hW : wr = wr0 at *
      clear hW
      go_wp2_with fail
      clear x0
      go_loopw [5, 30] (fun vs vx wr => ∃ (x : Nat) (S : List ByteArray) (v : Value) (nx : List Int), vx = .int .i64 (x : Nat) ∧ x ≤ k ∧ i < S.length ∧ S.length ≤ 80 + x ∧ i < 80 ∧ Hid (∀ e ∈ S, e.size ≤ 7) ∧ Hid (ExpA (redD R) redF ⟨#[]⟩ k S nx fin i x) ∧ Hid (AutS w3 wr (w3.heap.size + 1) (k : Nat) v uF nx fin 9 1 vs S.length (S.map Value.string))) (fun _ vx _ => k - (intOf vx).toNat)
      case atStart => exact ⟨0, S, v, nx, rfl, Nat.zero_le _, hlt, by omega, by omega, HMP, HP, HS⟩
      case round =>
        clear HP HS HMP hii hlt hiS hS80
        obtain ⟨x, S, v, nx, rfl, hx, hiS, hS80, hi80, HMP, HP, HS⟩ := hrel
        obtain ⟨aS, cS, rfl⟩ := owns_form HS.out.st
        obtain ⟨a5, c5, rfl⟩ := owns_form HS.out.aut.nx
        have hii : (i : Int) < (S.length : Int) := by omega
        have HBW := Lib.hid HS.out.aut.bel
        obtain ⟨bS, oS, rfl, hbS, hcS⟩ := StrsIn.cell (l := S) (owns_strs HS.out.st) hiS
        have cS0 := hcS i hiS
        have hge : nthS S i = S[i] := by unfold nthS; rw [List.getD_eq_getElem?_getD, List.getElem?_eq_getElem hiS]; rfl
        obtain ⟨s, hse⟩ : ∃ s, S[i] = s := ⟨_, rfl⟩
        rw [hge, hse] at cS0
        have HSI : Hid (S[i]? = some s) := Lib.hid (by rw [List.getElem?_eq_getElem hiS, hse])
        have hs7 : s.size ≤ 7 := by rw [← hse]; exact HMP.out _ (List.getElem_mem hiS)
        have hnl1 : nx.length ≤ 400 := by have := HP.out.lenN hki (c := 80) (by omega); omega
        have hnl2 : fin.length ≤ 80 := by rw [HP.out.flen]; omega
        clear hcS hge hse
        by_cases hlx : x < k
        · have hxi : (x : Int) < (k : Int) := by omega
          have HNQ := Lib.hid (HNX.out wr p s x (RulesIn.later HR3.out HBW.out) (HRD.out.later HBW.out) (by omega) (by omega))
          have HDE : Hid (redD R s x = if okX R s x = true then some (nxtX R s x) else none) := Lib.hid rfl
          have hnz : (nxtX R s x).size ≤ 7 := Nat.le_trans (cutR_size R (s ++ letterN x)) (by omega)
          go_wp2_with fail
          refine HNQ.out.mono ?_
          rintro e w8 (⟨hok, rfl, hb8⟩ | ⟨hok, rfl, hb8⟩)
          · have HDS : Hid (redD R s x = some (nxtX R s x)) := Lib.hid (by rw [HDE.out, if_pos hok])
            have HS8 := Lib.hid (HS.out.later hb8)
            clear hok hb8 HDE cS0 HNQ
            generalize nxtX R s x = t at *
            have HIX := Lib.hid (indexSA t S (some ⟨bS, oS, none⟩) cS w8 (owns_strs HS8.out.st) (by omega))
            go_wp2_with fail
            refine HIX.out.mono ?_
            rintro e w10 ⟨hix, hb10⟩
            have HS10 := Lib.hid (HS8.out.later hb10)
            clear hb10
            rcases hix with ⟨j, hj, rfl⟩ | ⟨hj, rfl⟩
            · have HPN := Lib.hid (HP.out.old HSI.out hlx HDS.out hj)
              have hj0 : ¬ (j : Int) < 0 := by omega
              clear hj
              have HA := Lib.hid HS10.out.aut
              have HNXT := Lib.hid HS10.out.aut.nx
              go_upto_region 19 with fail
              have HN1 : Hid ([Value.int .i64 (j : Int)].length = 1) := Lib.hid rfl
              have HN2 : Hid (∀ v ∈ [Value.int .i64 (j : Int)], v.oneCell' = true) := Lib.hid (fun v hv => by simp at hv; rcases hv with rfl; rfl)
              obtain ⟨z0, z1, z2⟩ := HA.out.cells
              have zf := HA.out.frz 1
              go_wp2_with (at_builtin; refine wpList_appH (n := nx.length) (wr := w10) (news := [Value.int .i64 (j : Int)]) rfl (.tmp 62) (.tmp 64) rfl Tryz.underlying27 Tryz.infoInt rfl (by decide) rfl HNXT.out HA.out.lt rfl HN1.out HN2.out (by unfold maxLen; omega) (by omega) ?_; intro g4 c4 w5 ho4 hg4 hr4; obtain ⟨q0, q1, q2, qf0, qf1, qf2⟩ := aut_facts ((HA.out.later (alloc_belowS w10 _)).grownN hg4))
              have HQ := Lib.hid ((HS10.out.later (alloc_belowS w10 _)).putN (x := (j : Int)) hg4 ho4 hr4)
              clear ho4 hg4 hr4 z0 z1 z2 zf
              go_wp2_with fail
              go_roundw
              case rel => exact ⟨x + 1, S, _, _, by go_num, by omega, hiS, by omega, hi80, HMP, HPN, HQ⟩
              case measure => simp [intOf]; omega
            · have HPN := Lib.hid (HP.out.new HSI.out hlx HDS.out)
              clear hj
              go_upto_region 18 with fail
              have HMS1 : Hid ([Value.string t].length = 1) := Lib.hid rfl
              have HMS2 : Hid (∀ v ∈ [Value.string t], v.oneCell' = true) := Lib.hid (fun v hv => by rw [List.mem_singleton.1 hv]; rfl)
              have HST := Lib.hid HS10.out.st
              have HSZ3 : Hid (w3.heap.size ≤ w10.heap.size) := Lib.hid HS10.out.aut.bel.size
              go_upto_region 19 with (at_builtin; refine wpList_appH (n := S.length) (wr := w10) (news := [Value.string t]) rfl (.tmp 57) (.tmp 59) rfl Tryz.underlying47 Tryz.infoStr rfl (by decide) rfl HST.out HSZ3.out rfl HMS1.out HMS2.out (by unfold maxLen; omega) (by omega) ?_; intro g6 c6 w11 ho6 hg6 hr6)
              have HSA : Hid ((S ++ [t]).map Value.string = S.map Value.string ++ [Value.string t]) := Lib.hid (by simp)
              have HSN : Hid ((S ++ [t]).length = S.length + 1) := Lib.hid (by simp)
              have HMP2 : Hid (∀ e ∈ S ++ [t], e.size ≤ 7) := Lib.hid (fun p hp => by
                rcases List.mem_append.1 hp with hp | hp
                · exact HMP.out p hp
                · rw [List.mem_singleton.1 hp]; exact hnz)
              have HS11 : Hid (AutS w3 w11 (w3.heap.size + 1) (k : Nat) (.slice a5 nx.length c5) uF nx fin 9 1 (.slice (some ⟨g6, 0, none⟩) (S ++ [t]).length c6) (S ++ [t]).length ((S ++ [t]).map Value.string)) := Lib.hid (by
                rw [HSA.out, HSN.out]
                exact (HS10.out.later (alloc_belowS w10 _)).putS hg6 ho6 hr6)
              clear ho6 hg6 hr6 HS10
              have hiS2 : i < (S ++ [t]).length := by rw [HSN.out]; omega
              have hSb2 : (S ++ [t]).length ≤ 80 + (x + 1) := by rw [HSN.out]; omega
              have HA := Lib.hid HS11.out.aut
              have HNXT := Lib.hid HS11.out.aut.nx
              have HN1 : Hid ([Value.int .i64 (S.length : Int)].length = 1) := Lib.hid rfl
              have HN2 : Hid (∀ v ∈ [Value.int .i64 (S.length : Int)], v.oneCell' = true) := Lib.hid (fun v hv => by simp at hv; rcases hv with rfl; rfl)
              obtain ⟨z0, z1, z2⟩ := HA.out.cells
              have zf := HA.out.frz 1
              go_wp2_with (at_builtin; refine wpList_appH (n := nx.length) (wr := w11) (news := [Value.int .i64 (S.length : Int)]) rfl (.tmp 62) (.tmp 64) rfl Tryz.underlying27 Tryz.infoInt rfl (by decide) rfl HNXT.out HA.out.lt rfl HN1.out HN2.out (by unfold maxLen; omega) (by omega) ?_; intro g4 c4 w5 ho4 hg4 hr4; obtain ⟨q0, q1, q2, qf0, qf1, qf2⟩ := aut_facts ((HA.out.later (alloc_belowS w11 _)).grownN hg4))
              have HQ := Lib.hid ((HS11.out.later (alloc_belowS w11 _)).putN (x := (S.length : Int)) hg4 ho4 hr4)
              clear ho4 hg4 hr4 z0 z1 z2 zf
              go_wp2_with fail
              go_roundw
              case rel => exact ⟨x + 1, S ++ [t], .slice (some ⟨g4, 0, none⟩) (nx.length + 1) c4, _, by go_num, by omega, hiS2, hSb2, hi80, HMP2, HPN, by rw [HSN.out] at HQ ⊢; exact HQ⟩
              case measure => simp [intOf]; omega
          · have HPN := Lib.hid (HP.out.dead HSI.out hlx (by rw [HDE.out, hok]; rfl))
            have HS8 := Lib.hid (HS.out.later hb8)
            clear hok hb8 HDE cS0 HNQ
            have HA := Lib.hid HS8.out.aut
            have HNXT := Lib.hid HS8.out.aut.nx
            go_upto_region 14 with fail
            have HN1 : Hid ([Value.int .i64 (-1)].length = 1) := Lib.hid rfl
            have HN2 : Hid (∀ v ∈ [Value.int .i64 (-1)], v.oneCell' = true) := Lib.hid (fun v hv => by simp at hv; rcases hv with rfl; rfl)
            obtain ⟨z0, z1, z2⟩ := HA.out.cells
            have zf := HA.out.frz 1
            go_wp2_with (at_builtin; refine wpList_appH (n := nx.length) (wr := w8) (news := [Value.int .i64 (-1)]) rfl (.tmp 46) (.tmp 47) rfl Tryz.underlying27 Tryz.infoInt rfl (by decide) rfl HNXT.out HA.out.lt rfl HN1.out HN2.out (by unfold maxLen; omega) (by omega) ?_; intro g4 c4 w5 ho4 hg4 hr4; obtain ⟨q0, q1, q2, qf0, qf1, qf2⟩ := aut_facts ((HA.out.later (alloc_belowS w8 _)).grownN hg4))
            have HQ := Lib.hid ((HS8.out.later (alloc_belowS w8 _)).putN (x := -1) hg4 ho4 hr4)
            clear ho4 hg4 hr4 z0 z1 z2 zf
            go_wp2_with fail
            go_roundw
            case rel => exact ⟨x + 1, S, _, _, by go_num, by omega, hiS, by omega, hi80, HMP, HPN, HQ⟩
            case measure => simp [intOf]; omega
        · have hxi : ¬ (x : Int) < (k : Int) := by omega
          obtain rfl : k = x := by omega
          have HPR : Hid (ExpA (redD R) redF ⟨#[]⟩ k S nx (fin ++ [true]) (i + 1) 0) := Lib.hid (HP.out.row HSI.out)
          obtain ⟨a6, c6, rfl⟩ := owns_form HS.out.aut.fn
          have HA := Lib.hid HS.out.aut
          have HNXT := Lib.hid HS.out.aut.fn
          clear cS0
          go_upto_region 21 with fail
          have HN1 : Hid ([Value.bool true].length = 1) := Lib.hid rfl
          have HN2 : Hid (∀ v ∈ [Value.bool true], v.oneCell' = true) := Lib.hid (fun v hv => by simp at hv; rcases hv with rfl; rfl)
          obtain ⟨z0, z1, z2⟩ := HA.out.cells
          have zf := HA.out.frz 2
          go_upto_region 22 with (at_builtin; refine wpList_appH (n := fin.length) (wr := wr) (news := [Value.bool true]) rfl (.tmp 69) (.tmp 70) rfl Tryz.underlying28 Tryz.infoBool rfl (by decide) rfl HNXT.out HA.out.lt rfl HN1.out HN2.out (by unfold maxLen; omega) (by omega) ?_; intro g4 c4 w5 ho4 hg4 hr4; obtain ⟨q0, q1, q2, qf0, qf1, qf2⟩ := aut_facts ((HA.out.later (alloc_belowS wr _)).grownF hg4))
          have HQ := Lib.hid ((HS.out.later (alloc_belowS wr _)).putF (x := true) hg4 ho4 hr4)
          clear ho4 hg4 hr4 z0 z1 z2 zf q0 q1 q2 qf0 qf1 qf2
          generalize w5.setCell ⟨w3.heap.size + 1, 2, none⟩ (.slice (some ⟨g4, 0, none⟩) (fin.length + 1) c4) = w11 at *
          by_cases hbig : S.length ≤ 80
          · have hb1 : ¬ (80 : Int) < (S.length : Int) := by omega
            go_wp2_with fail
            go_roundw
            case rel => exact ⟨i + 1, S, _, _, _, _, by go_num, by omega, hbig, HMP, HPR, HQ⟩
            case measure => simp [intOf]; omega
          · have hb1 : (80 : Int) < (S.length : Int) := by omega
            have HZ9 := Lib.hid (blk_later HZ3.out HQ.out.aut.bel)
            obtain ⟨m0, m1, m2, mf0, mf1, mf2⟩ := aut_facts HZ9.out
            obtain ⟨u0, u1, u2⟩ := aut_cells (aut_three HZ9.out (.int .i64 0) (.slice none 0 0) (.slice none 0 0))
            have FR : Hid (RetRed k R w (.returned (.tuple #[.agg #[.int .i64 0, .slice none 0 0, .slice none 0 0], .bool false])) (((w11.setCell ⟨w.heap.size + 1, 0, none⟩ (.int .i64 0)).setCell ⟨w.heap.size + 1, 1, none⟩ (.slice none 0 0)).setCell ⟨w.heap.size + 1, 2, none⟩ (.slice none 0 0))) := Lib.hid (.inl ⟨rfl, (((Below.now HB3.out HQ.out.aut.bel).setCell (p := ⟨w.heap.size + 1, 0, none⟩) (by show w.heap.size ≤ w.heap.size + 1; omega) _).setCell (p := ⟨w.heap.size + 1, 1, none⟩) (by show w.heap.size ≤ w.heap.size + 1; omega) _).setCell (p := ⟨w.heap.size + 1, 2, none⟩) (by show w.heap.size ≤ w.heap.size + 1; omega) _⟩)
            go_wp2_with fail
            refine bodyPost_ret (v := .tuple #[.agg #[.int .i64 0, .slice none 0 0, .slice none 0 0], .bool false]) ?_ rfl FR.out
            simp [results, Tryz.results6, go_sem, u0, u1, u2]
    · have hii : ¬ (i : Int) < (S.length : Int) := by omega
      obtain rfl : i = S.length := by omega
      obtain ⟨a5, c5, rfl⟩ := owns_form HS.out.aut.nx
      obtain ⟨a6, c6, rfl⟩ := owns_form HS.out.aut.fn
      have HOKA := Lib.hid (HP.out.ok hkj hki hS80)
      have HACC : Hid (∀ v, accA k nx fin 0 v ↔ accD (redD R) redF k ⟨#[]⟩ v) := Lib.hid (fun v => HP.out.acc v 0 ⟨#[]⟩ HP.out.zero)
      have HCNT : Hid (∀ m, cntW k nx fin m 0 = paths R k m ⟨#[]⟩) := Lib.hid (fun m => (HP.out.cnt m 0 ⟨#[]⟩ HP.out.zero).trans (red_cnt R k m ⟨#[]⟩))
      have HA := Lib.hid HS.out.aut
      clear HP
      generalize hW : wr = w9 at *
      clear hW
      have HZ9 := Lib.hid (blk_later HZ3.out HA.out.bel)
      obtain ⟨q0, q1, q2⟩ := HA.out.cells
      have FF := Lib.hid (HA.out.fin (z := w.heap.size + 1) HB3.out (by have := HGZ.out; omega) (by omega) (.int .i64 (k : Nat)) (.slice a5 nx.length c5) (.slice a6 fin.length c6))
      have FR : Hid (RetRed k R w (.returned (.tuple #[.agg #[.int .i64 (k : Nat), .slice a5 nx.length c5, .slice a6 fin.length c6], .bool true])) (((w9.setCell ⟨w.heap.size + 1, 0, none⟩ (.int .i64 (k : Nat))).setCell ⟨w.heap.size + 1, 1, none⟩ (.slice a5 nx.length c5)).setCell ⟨w.heap.size + 1, 2, none⟩ (.slice a6 fin.length c6))) := Lib.hid (.inr ⟨_, _, _, _, _, _, rfl, HOKA.out, HACC.out, HCNT.out, FF.out.1, FF.out.2⟩)
      obtain ⟨m0, m1, m2, mf0, mf1, mf2⟩ := aut_facts HZ9.out
      obtain ⟨u0, u1, u2⟩ := aut_cells (aut_three HZ9.out (.int .i64 (k : Nat)) (.slice a5 nx.length c5) (.slice a6 fin.length c6))
      go_wp2_with fail
      refine bodyPost_ret (v := .tuple #[.agg #[.int .i64 (k : Nat), .slice a5 nx.length c5, .slice a6 fin.length c6], .bool true]) ?_ rfl FR.out
      simp [results, Tryz.results6, go_sem, u0, u1, u2]
end Go.Proofs.YtoddpmdjjgnpgaaGreatDoor
namespace Go.Proofs.YtoddpmdjjgnpgaaGreatDoor
open Go.RowKit
set_option linter.unusedVariables false
set_option maxRecDepth 20000 in
set_option maxHeartbeats 2000000 in
theorem implIsReduced_any (k : Nat) (R : List RulD) (a : Option Addr) (cap : Nat) (w0 : ByteArray) (w : World) (hl : RulesIn w a R) (hs : sysP (k : Int) R) (hw : w0.size ≤ 16) :
    Calls Tryz.prog 10 #[.agg #[.int .i64 (k : Nat), .slice a R.length cap], .string w0] w (RetP (wordOkB (k : Nat) w0 = true ∧ (stepsF R w0).head? = none) w) := by
  obtain ⟨h12, hsz, hk1, hk4⟩ := sys_sizes hs
  have hz : SzR R := fun j hj => by have := hsz j hj; unfold maxLen; omega
  have HB1 := Lib.hid (alloc_belowS w (.cells #[.int .i64 (k : Nat), .slice a R.length cap] 25))
  have HX1 := Lib.hid (alloc_at w (.cells #[.int .i64 (k : Nat), .slice a R.length cap] 25))
  have HR1 := Lib.hid (RulesIn.later hl HB1.out)
  have HTK := Lib.hid (fun W hW => implTakes_any (k : Nat) R a cap w0 W hW (by omega) hz (by unfold maxLen; omega))
  have HFS := Lib.hid (fun W hW => implFirstStep_any (k : Nat) R a cap w0 W hW hs hw)
  have HSY := Lib.hid hs
  clear hl hs hz hsz
  obtain ⟨x0, x1⟩ := sys_cells HX1.out
  go_enter Tryz.func10, Tryz.ntmps10
  go_upto_region 1 with fail
  generalize w.alloc (.cells #[.int .i64 (k : Nat), .slice a R.length cap] 25) = w1 at *
  go_wp2_with fail
  refine (HTK.out _ HR1.out).mono ?_
  rintro e w2 ⟨b, hb, rfl, hb2⟩
  have HBB := Lib.hid hb
  have HB2 := Lib.hid hb2
  clear hb hb2 x0 x1 HTK
  cases b
  · have F : Hid (RetP (wordOkB (k : Nat) w0 = true ∧ (stepsF R w0).head? = none) w (.returned (.bool false)) w2) := Lib.hid (RetP.no (fun h => by have := HBB.out.2 ⟨HSY.out, h.1⟩; cases this) (Below.now HB1.out HB2.out))
    go_wp2_with fail
    go_ret
    exact F.out
  · have HWO : Hid (wordOkB (k : Nat) w0 = true) := Lib.hid (HBB.out.1 (by trivial)).2
    obtain ⟨x0, x1⟩ := sys_cells (blk_later HX1.out HB2.out)
    go_wp2_with fail
    refine (HFS.out _ (RulesIn.later HR1.out HB2.out)).mono ?_
    rintro e w3 ⟨hb3, ⟨s, hs, rfl⟩ | ⟨hs, rfl⟩⟩
    · have HB3 := Lib.hid (Below.now HB1.out (Below.now HB2.out hb3))
      have FN : Hid (¬ (wordOkB (k : Nat) w0 = true ∧ (stepsF R w0).head? = none)) := Lib.hid (fun h => by rw [h.2] at hs; cases hs)
      clear hs hb3 x0 x1
      go_wp2_with fail
      go_ret
      exact RetP.no FN.out (by repeat (first | exact HB3.out | refine Below.setCell ?_ (by first | omega | (simp; omega) | exact HB3.out.size) _ | refine Below.alloc ?_ (by first | exact HB3.out.size | (simp; done)) _))
    · have HB3 := Lib.hid (Below.now HB1.out (Below.now HB2.out hb3))
      have FN : Hid (wordOkB (k : Nat) w0 = true ∧ (stepsF R w0).head? = none) := Lib.hid ⟨HWO.out, hs⟩
      clear hs hb3 x0 x1
      go_wp2_with fail
      go_ret
      exact RetP.yes FN.out (by repeat (first | exact HB3.out | refine Below.setCell ?_ (by first | omega | (simp; omega) | exact HB3.out.size) _ | refine Below.alloc ?_ (by first | exact HB3.out.size | (simp; done)) _))
set_option maxRecDepth 20000 in
set_option maxHeartbeats 2000000 in
theorem implCountRed_any (k : Nat) (R : List RulD) (a : Option Addr) (cap n : Nat) (w : World) (hl : RulesIn w a R) (hs : sysP (k : Int) R) (hn : n ≤ 16) :
    Calls Tryz.prog 12 #[.agg #[.int .i64 (k : Nat), .slice a R.length cap], .int .i64 (n : Nat)] w fun e w' => e = .returned (.int .i64 ((paths R k n ⟨#[]⟩ : Nat) : Int)) ∧ Below w.heap.size w w' := by
  obtain ⟨h12, hsz, hk1, hk4⟩ := sys_sizes hs
  have hz : SzR R := fun j hj => by have := hsz j hj; unfold maxLen; omega
  have HB1 := Lib.hid (alloc_belowS w (.cells #[.int .i64 (k : Nat), .slice a R.length cap] 25))
  have HX1 := Lib.hid (alloc_at w (.cells #[.int .i64 (k : Nat), .slice a R.length cap] 25))
  have HR1 := Lib.hid (RulesIn.later hl HB1.out)
  have HOK := Lib.hid (fun W hW => implSystemOk_any (k : Nat) R a cap W hW (by omega) hz)
  have HWI : Hid (∀ W, Calls Tryz.prog 50 #[.int .i64 (n : Nat), .int .i64 0, .int .i64 16] W fun e w' => e = .returned (.bool true) ∧ W = w') := Lib.hid (fun W => by
    have h1 := within_any (n : Nat) 0 16 W
    rwa [show inB ((n : Nat) : Int) 0 16 = true by simp [inB]; omega] at h1)
  have HGR := Lib.hid (fun W hW => growth_any k n R a cap W hW (by omega) hs hn)
  have HSY := Lib.hid hs
  have hgl := growL_len R k n
  have HGA : Hid (nthZ (growL R k n) n = ((paths R k n ⟨#[]⟩ : Nat) : Int)) := Lib.hid (by
    rw [nthZ_lt (by rw [hgl]; omega)]; simp [growL])
  clear hl hs hz hsz
  obtain ⟨x0, x1⟩ := sys_cells HX1.out
  go_enter Tryz.func12, Tryz.ntmps12
  go_upto_region 1 with fail
  generalize w.alloc (.cells #[.int .i64 (k : Nat), .slice a R.length cap] 25) = w1 at *
  go_wp2_with fail
  refine (HOK.out _ HR1.out).mono ?_
  rintro e w2 ⟨b, hb, rfl, hb2⟩
  obtain rfl : b = true := hb.2 HSY.out
  have HB2 := Lib.hid hb2
  clear hb hb2 x0 x1 HOK
  obtain ⟨x0, x1⟩ := sys_cells (blk_later HX1.out HB2.out)
  go_wp2_with fail
  refine (HWI.out _).mono ?_
  rintro e w3 ⟨rfl, rfl⟩
  go_wp2_with fail
  refine (HGR.out _ (RulesIn.later HR1.out HB2.out)).mono ?_
  rintro e w4 ⟨a4, c4, rfl, ho, hb4⟩
  rw [hgl] at ho ⊢
  have hI : IntsIn w4 a4 (growL R k n) := owns_ints (l := growL R k n) ho
  obtain ⟨b5, o5, rfl, _, hc5⟩ := hI.cell (i := n) (by rw [hgl]; omega)
  have c5 := hc5 n (by rw [hgl]; omega)
  rw [HGA.out] at c5
  have hni : (n : Int) < (n : Int) + 1 := by omega
  have F := Below.now HB1.out (Below.now HB2.out hb4)
  clear ho hb4 hI hc5 HGR
  go_wp2_with fail
  go_ret
  exact ⟨rfl, F⟩
end Go.Proofs.YtoddpmdjjgnpgaaGreatDoor
namespace Go.Proofs.YtoddpmdjjgnpgaaGreatDoor
open Go.RowKit Go.Maps
set_option linter.unusedVariables false
/-- the state behind a word -/
def runA (k : Nat) (N : List Int) : Nat → List Nat → Option Nat
  | s, [] => some s
  | s, x :: w => if x < k ∧ 0 ≤ nxI k N s x then runA k N (nxI k N s x).toNat w else none
theorem run_acc {k : Nat} {N : List Int} {F : List Bool} : ∀ (w : List Nat) (s : Nat), accA k N F s w ↔ ∃ t, runA k N s w = some t ∧ F.getD t false = true
  | [], s => by
    rw [accA, runA]
    exact ⟨fun h => ⟨s, rfl, h⟩, fun ⟨t, h1, h2⟩ => by cases h1; exact h2⟩
  | x :: w, s => by
    rw [accA, runA]
    by_cases h : x < k ∧ 0 ≤ nxI k N s x
    · rw [if_pos h, ← run_acc w]
      exact ⟨fun hh => hh.2.2, fun hh => ⟨h.1, h.2, hh⟩⟩
    · rw [if_neg h]
      exact ⟨fun hh => absurd ⟨hh.1, hh.2.1⟩ h, fun ⟨t, h1, _⟩ => by cases h1⟩
theorem run_app {k : Nat} {N : List Int} : ∀ (u v : List Nat) (s t : Nat), runA k N s u = some t → runA k N s (u ++ v) = runA k N t v
  | [], v, s, t, h => by rw [runA] at h; cases h; rfl
  | x :: u, v, s, t, h => by
    rw [runA] at h
    rw [List.cons_append, runA]
    by_cases hc : x < k ∧ 0 ≤ nxI k N s x
    · rw [if_pos hc] at h ⊢; exact run_app u v _ t h
    · rw [if_neg hc] at h; cases h
abbrev StW := Nat × ByteArray
theorem wt_snoc (u : List UInt8) (c : UInt8) : wt (u ++ [c]) = wt u * 257 + (c.toNat + 1) := by
  rw [wt_app]; simp [wt, wtL]
theorem wt_pre (u t : List UInt8) : wt u ≤ wt (u ++ t) := by
  rw [wt_app]
  have : 1 ≤ 257 ^ t.length := Nat.one_le_pow _ _ (by omega)
  have h2 := Nat.mul_le_mul_left (wt u) this
  omega
theorem wt_snoc_lt {u v : List UInt8} (h : wt u < wt v) (c d : UInt8) : wt (u ++ [c]) < wt (v ++ [d]) := by
  rw [wt_snoc, wt_snoc]
  have := c.toNat_lt
  have := d.toNat_lt
  omega
theorem wt_snoc_le {u v : List UInt8} (h : wt u ≤ wt v) (c : UInt8) : wt (u ++ [c]) ≤ wt (v ++ [c]) := by
  rw [wt_snoc, wt_snoc]; omega
theorem lt97_less {x y : Nat} (h : x < y) (hy : y < 4) : (lt97 x).toNat < (lt97 y).toNat := by
  unfold lt97; simp; omega
structure ShaP (k : Nat) (N : List Int) (n : Nat) (L : List StW) (i y : Nat) : Prop where
  zero : L[0]? = some (0, ⟨#[]⟩)
  small : ∀ p ∈ L, p.1 < n
  nodup : (L.map Prod.fst).Nodup
  run : ∀ p ∈ L, ∃ xs : List Nat, xs.map lt97 = p.2.data.toList ∧ (∀ x ∈ xs, x < k) ∧ runA k N 0 xs = some p.1
  up : ∀ (j j' : Nat) (p p' : StW), j < j' → L[j]? = some p → L[j']? = some p' → wt p.2.data.toList < wt p'.2.data.toList
  clo : ∀ (j x : Nat) (p : StW), L[j]? = some p → (j < i ∨ j = i ∧ x < y) → x < k → 0 ≤ nxI k N p.1 x → ∃ (m : Nat) (q : StW), L[m]? = some q ∧ q.1 = (nxI k N p.1 x).toNat ∧ wt q.2.data.toList ≤ wt (p.2.data.toList ++ [lt97 x])
  par : ∀ (j : Nat) (p : StW), L[j]? = some p → j = 0 ∨ ∃ (j' : Nat) (p' : StW) (x : Nat), L[j']? = some p' ∧ (j' < i ∨ j' = i ∧ x < y) ∧ x < k ∧ p.2 = p'.2 ++ letterN x
  size : ∀ (j : Nat) (p : StW), L[j]? = some p → p.2.size ≤ j
  ile : i ≤ L.length
section
variable {k : Nat} {N : List Int} {n : Nat} {L : List StW} {i y : Nat}
theorem ShaP.start (k : Nat) (N : List Int) (hn : 1 ≤ n) : ShaP k N n [(0, ⟨#[]⟩)] 0 0 := by
  have one : ∀ {j : Nat} {p : StW}, [((0 : Nat), (⟨#[]⟩ : ByteArray))][j]? = some p → j = 0 ∧ p = (0, ⟨#[]⟩) := fun {j p} h => by
    match j, h with
    | 0, h => exact ⟨rfl, (Option.some.inj h).symm⟩
    | j + 1, h => simp at h
  refine ⟨rfl, fun p hp => by rw [List.mem_singleton.1 hp]; omega, by simp, fun p hp => ⟨[], by rw [List.mem_singleton.1 hp]; rfl, fun x hx => (by cases hx), by rw [List.mem_singleton.1 hp]; rfl⟩, fun j j' p p' hj h1 h2 => ?_, fun j x p h1 h2 => by omega, fun j p h => .inl (one h).1, fun j p h => by rw [(one h).2]; exact Nat.zero_le _, by simp⟩
  have := (one h1).1
  have := (one h2).1
  omega
theorem ShaP.few (h : ShaP k N n L i y) : L.length ≤ n := by
  have h3 := h.nodup.length_le_of_subset (l₂ := List.range n) fun s hs => by
    obtain ⟨p, hp, rfl⟩ := List.mem_map.1 hs
    exact List.mem_range.2 (h.small p hp)
  rwa [List.length_map, List.length_range] at h3
theorem ShaP.row (h : ShaP k N n L i k) (hi : i < L.length) : ShaP k N n L (i + 1) 0 :=
  ⟨h.zero, h.small, h.nodup, h.run, h.up, fun j x p h1 h2 hx => h.clo j x p h1 (by omega) hx, fun j p hp => (h.par j p hp).imp id fun ⟨j', p', x, h1, h2, h3, h4⟩ => ⟨j', p', x, h1, by omega, h3, h4⟩, h.size, hi⟩
/-- no state, or one that is known -/
theorem ShaP.dead (h : ShaP k N n L i y) {p : StW} (hp : L[i]? = some p) (hd : ¬ 0 ≤ nxI k N p.1 y) : ShaP k N n L i (y + 1) := by
  refine ⟨h.zero, h.small, h.nodup, h.run, h.up, fun j x q h1 h2 hx h0 => ?_, fun j p hp => (h.par j p hp).imp id fun ⟨j', p', x, h1, h2, h3, h4⟩ => ⟨j', p', x, h1, by omega, h3, h4⟩, h.size, h.ile⟩
  by_cases e : j = i ∧ x = y
  · obtain ⟨rfl, rfl⟩ := e
    rw [hp] at h1
    obtain rfl := Option.some.inj h1
    exact absurd h0 hd
  · exact h.clo j x q h1 (by omega) hx h0
theorem ShaP.old (h : ShaP k N n L i y) {p : StW} (hp : L[i]? = some p) (hy : y < k) {q : StW} (hq : q ∈ L) (he : (nxI k N p.1 y).toNat = q.1) (hk : k ≤ 4) : ShaP k N n L i (y + 1) := by
  refine ⟨h.zero, h.small, h.nodup, h.run, h.up, fun j x r h1 h2 hx h0 => ?_, fun j p hp => (h.par j p hp).imp id fun ⟨j', p', x, h1, h2, h3, h4⟩ => ⟨j', p', x, h1, by omega, h3, h4⟩, h.size, h.ile⟩
  by_cases e : j = i ∧ x = y
  · obtain ⟨rfl, rfl⟩ := e
    rw [hp] at h1
    obtain rfl := Option.some.inj h1
    obtain ⟨m, hm, hmq⟩ := List.getElem_of_mem hq
    have hm2 : L[m]? = some q := by rw [List.getElem?_eq_getElem hm, hmq]
    refine ⟨m, q, hm2, he.symm, ?_⟩
    rcases h.par m q hm2 with rfl | ⟨j', p', x', g1, g2, g3, g4⟩
    · have := h.zero
      rw [hm2] at this
      obtain rfl := Option.some.inj this
      exact Nat.zero_le _
    · rw [g4, app_lt]
      rcases g2 with g2 | ⟨rfl, g2⟩
      · exact Nat.le_of_lt (wt_snoc_lt (h.up j' j p' p g2 g1 hp) _ _)
      · rw [hp] at g1
        obtain rfl := Option.some.inj g1
        rw [wt_snoc, wt_snoc]
        have := lt97_less g2 (by omega)
        omega
  · exact h.clo j x r h1 (by omega) hx h0
theorem ShaP.new (h : ShaP k N n L i y) {p : StW} (hp : L[i]? = some p) (hy : y < k) {t : Nat} (ht : nxI k N p.1 y = (t : Int)) (htn : t < n) (hf : t ∉ L.map Prod.fst) (hk : k ≤ 4) : ShaP k N n (L ++ [(t, p.2 ++ letterN y)]) i (y + 1) := by
  have hi := (List.getElem?_eq_some_iff.1 hp).1
  have lift : ∀ {j : Nat} {q : StW}, L[j]? = some q → (L ++ [(t, p.2 ++ letterN y)])[j]? = some q := fun {j q} hj => by
    rw [List.getElem?_append_left (List.getElem?_eq_some_iff.1 hj).1]; exact hj
  have low : ∀ {j : Nat} {q : StW}, (L ++ [(t, p.2 ++ letterN y)])[j]? = some q → L[j]? = some q ∨ (j = L.length ∧ q = (t, p.2 ++ letterN y)) := fun {j q} hj => by
    by_cases hl : j < L.length
    · rw [List.getElem?_append_left hl] at hj; exact .inl hj
    · rw [List.getElem?_append_right (by omega)] at hj
      have h1 := (List.getElem?_eq_some_iff.1 hj).1
      have h2 : j - L.length = 0 := by simpa using h1
      rw [h2] at hj
      exact .inr ⟨by omega, (Option.some.inj hj).symm⟩
  have hlast : ∀ (j : Nat) (q : StW), L[j]? = some q → wt q.2.data.toList < wt (p.2 ++ letterN y).data.toList := fun j q hj => by
    rw [app_lt]
    rcases h.par j q hj with rfl | ⟨j', p', x', g1, g2, g3, g4⟩
    · have := h.zero
      rw [hj] at this
      obtain rfl := Option.some.inj this
      rw [wt_snoc]
      show 0 < _
      omega
    · rw [g4, app_lt]
      rcases g2 with g2 | ⟨rfl, g2⟩
      · exact wt_snoc_lt (h.up j' i p' p g2 g1 hp) _ _
      · rw [hp] at g1
        obtain rfl := Option.some.inj g1
        rw [wt_snoc, wt_snoc]
        have := lt97_less g2 (by omega)
        omega
  refine ⟨lift h.zero, fun q hq => ?_, ?_, fun q hq => ?_, fun j j' q q' hj h1 h2 => ?_, fun j x q h1 h2 hx h0 => ?_, fun j q hq => ?_, fun j q hq => ?_, by rw [List.length_append]; have := h.ile; omega⟩
  · rcases List.mem_append.1 hq with hq | hq
    · exact h.small q hq
    · rw [List.mem_singleton.1 hq]; exact htn
  · rw [List.map_append, List.nodup_append]
    refine ⟨h.nodup, by simp, fun a ha b hb => ?_⟩
    have hb2 : b = t := by simpa using hb
    rw [hb2]; exact fun e => hf (e ▸ ha)
  · rcases List.mem_append.1 hq with hq | hq
    · exact h.run q hq
    · obtain ⟨xs, e1, e2, e3⟩ := h.run p (List.mem_of_getElem? hp)
      rw [List.mem_singleton.1 hq]
      refine ⟨xs ++ [y], by rw [List.map_append, e1, app_lt]; rfl, fun x hx => ?_, ?_⟩
      · rcases List.mem_append.1 hx with hx | hx
        · exact e2 x hx
        · rw [List.mem_singleton.1 hx]; exact hy
      · rw [run_app xs [y] 0 p.1 e3, runA, if_pos ⟨hy, by omega⟩, ht, Int.toNat_natCast]; rfl
  · rcases low h2 with h2 | ⟨rfl, rfl⟩
    · have hlt := (List.getElem?_eq_some_iff.1 h2).1
      rcases low h1 with h1 | ⟨rfl, _⟩
      · exact h.up j j' q q' hj h1 h2
      · omega
    · rcases low h1 with h1 | ⟨rfl, _⟩
      · exact hlast j q h1
      · omega
  · rcases low h1 with g0 | ⟨rfl, rfl⟩
    · by_cases e : j = i ∧ x = y
      · obtain ⟨rfl, rfl⟩ := e
        have h3 : some q = some p := g0.symm.trans hp
        obtain rfl := Option.some.inj h3
        refine ⟨L.length, (t, q.2 ++ letterN x), by simp, by rw [ht]; rfl, ?_⟩
        show wt (q.2 ++ letterN x).data.toList ≤ _
        rw [app_lt]; exact Nat.le_refl _
      · obtain ⟨m, r, g1, g2, g3⟩ := h.clo j x q g0 (by omega) hx h0
        exact ⟨m, r, lift g1, g2, g3⟩
    · omega
  · rcases low hq with hq | ⟨rfl, rfl⟩
    · exact (h.par j q hq).imp id fun ⟨j', p', x, h1, h2, h3, h4⟩ => ⟨j', p', x, lift h1, by omega, h3, h4⟩
    · exact .inr ⟨i, p, y, lift hp, .inr ⟨rfl, by omega⟩, hy, rfl⟩
  · rcases low hq with hq | ⟨rfl, rfl⟩
    · exact h.size j q hq
    · show (p.2 ++ letterN y).size ≤ _
      rw [ByteArray.size_append, letterN_size]
      have := h.size i p hp
      omega
/-- a word that is accepted is not less than the first one of those that are left -/
theorem ShaP.least (h : ShaP k N n L i 0) {F : List Bool} (hF : ∀ (j : Nat) (p : StW), j < i → L[j]? = some p → F.getD p.1 false = false) {t : Nat} (ht : F.getD t false = true) : ∀ (xs : List Nat) (pre : List UInt8) (m : Nat) (p : StW), L[m]? = some p → wt p.2.data.toList ≤ wt pre → runA k N p.1 xs = some t → ∃ (m' : Nat) (p' : StW), i ≤ m' ∧ L[m']? = some p' ∧ wt p'.2.data.toList ≤ wt (pre ++ xs.map lt97) := by
  intro xs
  induction xs with
  | nil =>
    intro pre m p hm hw hr
    rw [runA] at hr
    cases hr
    by_cases hmi : i ≤ m
    · exact ⟨m, p, hmi, hm, by simpa using hw⟩
    · rw [hF m p (by omega) hm] at ht; cases ht
  | cons x xs ih =>
    intro pre m p hm hw hr
    by_cases hmi : i ≤ m
    · exact ⟨m, p, hmi, hm, Nat.le_trans hw (wt_pre _ _)⟩
    · rw [runA] at hr
      by_cases hc : x < k ∧ 0 ≤ nxI k N p.1 x
      · rw [if_pos hc] at hr
        obtain ⟨m2, q, g1, g2, g3⟩ := h.clo m x p hm (.inl (by omega)) hc.1 hc.2
        rw [← g2] at hr
        obtain ⟨m', p', k1, k2, k3⟩ := ih (pre ++ [lt97 x]) m2 q g1 (Nat.le_trans g3 (wt_snoc_le hw _)) hr
        exact ⟨m', p', k1, k2, by simpa using k3⟩
      · rw [if_neg hc] at hr; cases hr
theorem ShaP.all (h : ShaP k N n L i 0) {F : List Bool} (hF : ∀ (j : Nat) (p : StW), j < i → L[j]? = some p → F.getD p.1 false = false) {xs : List Nat} (hx : accA k N F 0 xs) : ∃ (m : Nat) (p : StW), i ≤ m ∧ L[m]? = some p ∧ wt p.2.data.toList ≤ wt (xs.map lt97) := by
  obtain ⟨t, h1, h2⟩ := (run_acc xs 0).1 hx
  have := h.least hF h2 xs [] 0 (0, ⟨#[]⟩) h.zero (Nat.le_refl _) h1
  simpa using this
end
end Go.Proofs.YtoddpmdjjgnpgaaGreatDoor
