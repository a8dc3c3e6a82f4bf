/-
  Append, at a plain list of operations, to a row that lies from a base on, out of any source; and a key more in the captured keys.
-/
import Derived.Test.YtdhaebbfiaddnaaGreatDoorGts26
import Derived.Test.YtdhaebbfiaddnaaGreatDoorGts22
import Derived.Test.YtdhaebbfiaddnaaGreatDoorGts27
import Derived.Test.YtdhaebbfiaddnaaGreatDoorGts32
import Derived.Test.YtdhaebbfiaddnaaGreatDoorGts30
import Derived.Test.YtdhaebbfiaddnaaGreatDoorGts05
import Derived.Test.YtdhaebbfiaddnaaGreatDoorGts04
import Derived.Deep.AppendLies
namespace Go.Proofs.YtdhaebbfiaddnaaGreatDoor
open Go.RowKit
set_option linter.unusedVariables false
def RetTS (m : Nat) (R : List RulD) (w : World) (e : Ending) (w' : World) : Prop := ∃ (a : Option Addr) (cap : Nat), e = .returned (.tuple #[.agg #[.int .i64 ((m - 1 : Nat) : Int), .slice a R.length cap], .bool true]) ∧ RulesIn w' a R ∧ Below w.heap.size w w'
set_option maxRecDepth 20000 in
set_option maxHeartbeats 4000000 in
theorem implTableSystem_no (m : Nat) (l : List Int) (a : Option Addr) (cap : Nat) (w : World) (hl : IntsIn w a l) (hT : TabG m l) (hm : ¬ (2 ≤ m ∧ m ≤ 4)) :
    Calls Tryz.prog 26 #[.agg #[.int .i64 (m : Nat), .slice a l.length cap]] w fun e w' => e = .returned (.tuple #[.agg #[.int .i64 0, .slice none 0 0], .bool false]) ∧ Below w.heap.size w w' := by
  obtain ⟨hlen, hm1, hm2⟩ := hT.few
  have HB1 := Lib.hid (alloc_belI w (.cells #[.int .i64 (m : Nat), .slice a l.length cap] 60))
  have HX : Hid (∀ W, Below (w.alloc (.cells #[.int .i64 (m : Nat), .slice a l.length cap] 60)).heap.size (w.alloc (.cells #[.int .i64 (m : Nat), .slice a l.length cap] 60)) W → W.cell? ⟨w.heap.size, 0, none⟩ = some (.int .i64 (m : Nat)) ∧ W.cell? ⟨w.heap.size, 1, none⟩ = some (.slice a l.length cap)) := Lib.hid (fun W hW => ⟨by rw [hW.cell (by simp)]; simp, by rw [hW.cell (by simp)]; simp⟩)
  have HTO := Lib.hid (fun W (h : IntsIn W a l) => implTableOk_any (m : Nat) l a cap W h (by omega))
  rw [hT.tab] at HTO
  have HIN := Lib.hid (fun W => within_any ((m : Nat) : Int) 2 4 W)
  rw [show inB ((m : Nat) : Int) 2 4 = false by unfold inB; simp; omega] at HIN
  have hs1 : (w.alloc (.cells #[.int .i64 (m : Nat), .slice a l.length cap] 60)).heap.size = w.heap.size + 1 := by simp
  have HS1 := Lib.hid hs1
  clear hl hT hs1
  go_enter Tryz.func26, Tryz.ntmps26
  have z0b : ∀ o, ((w.alloc (.cells #[.int .i64 (m : Nat), .slice a l.length cap] 60)).alloc o).cell? ⟨w.heap.size, 0, none⟩ = some (.int .i64 (m : Nat)) := fun o => (HX.out _ (alloc_belI _ o)).1
  go_wp2_with fail
  generalize w.alloc (.cells #[.int .i64 (m : Nat), .slice a l.length cap] 60) = w1 at *
  have HA := Lib.hid (alloc_at w1 (.cells #[.int .i64 0, .slice none 0 0] 25))
  have HB2 := Lib.hid (alloc_belI w1 (.cells #[.int .i64 0, .slice none 0 0] 25))
  refine (HIN.out _).mono ?_
  rintro e w3 ⟨rfl, rfl⟩
  have hq2 := HA.out
  rw [HS1.out] at hq2
  have HQ2 := Lib.hid hq2
  clear hq2 HA z0b
  generalize w1.alloc (.cells #[.int .i64 0, .slice none 0 0] 25) = w2 at *
  generalize hr : w.heap.size + 1 = r1 at *
  have HS2 : Hid (r1 = w.heap.size + 1) := Lib.hid hr.symm
  clear hr
  obtain ⟨⟨f0, f1⟩, ⟨u0, u1⟩, _⟩ := box_sets HQ2.out (.int .i64 0) (.slice none 0 0)
  have F : Hid (Below w.heap.size w ((w2.setCell ⟨r1, 0, none⟩ (.int .i64 0)).setCell ⟨r1, 1, none⟩ (.slice none 0 0))) := Lib.hid (((Below.now HB1.out HB2.out).setCell (by have := HS2.out; show w.heap.size ≤ r1; omega) _).setCell (by have := HS2.out; show w.heap.size ≤ r1; omega) _)
  go_wp2_with fail
  refine bodyPost_ret (v := .tuple #[.agg #[.int .i64 0, .slice none 0 0], .bool false]) ?_ rfl ⟨rfl, F.out⟩
  simp [results, Tryz.results26, go_sem, u0, u1]
set_option maxRecDepth 20000 in
set_option maxHeartbeats 8000000 in
theorem implTableSystem_ok (m : Nat) (l : List Int) (a : Option Addr) (cap : Nat) (w : World) (hl : IntsIn w a l) (hT : TabG m l) (hm : 2 ≤ m ∧ m ≤ 4) :
    Calls Tryz.prog 26 #[.agg #[.int .i64 (m : Nat), .slice a l.length cap]] w (RetTS m (tsR m (l.map Int.toNat)) w) := by
  obtain ⟨hlen, hm1, hm2⟩ := hT.few
  have HB1 := Lib.hid (alloc_belI w (.cells #[.int .i64 (m : Nat), .slice a l.length cap] 60))
  have HX : Hid (∀ W, Below (w.alloc (.cells #[.int .i64 (m : Nat), .slice a l.length cap] 60)).heap.size (w.alloc (.cells #[.int .i64 (m : Nat), .slice a l.length cap] 60)) W → W.cell? ⟨w.heap.size, 0, none⟩ = some (.int .i64 (m : Nat)) ∧ W.cell? ⟨w.heap.size, 1, none⟩ = some (.slice a l.length cap)) := Lib.hid (fun W hW => ⟨by rw [hW.cell (by simp)]; simp, by rw [hW.cell (by simp)]; simp⟩)
  have HTO := Lib.hid (fun W (h : IntsIn W a l) => implTableOk_any (m : Nat) l a cap W h (by omega))
  rw [hT.tab] at HTO
  have HIN := Lib.hid (fun W => within_any ((m : Nat) : Int) 2 4 W)
  rw [show inB ((m : Nat) : Int) 2 4 = true by unfold inB; simp; omega] at HIN
  have HTM := Lib.hid (fun i k W (h : IntsIn W a l) hi hk => implTimes_any m _ a l.length cap i k W (hT.nats.2.1 W a h) hT.nats.1.toTb hT.nats.2.2 hi hk)
  have HTL := Lib.hid (fun i k hi hk => hT.nats.1.tm_lt (i := i) (k := k) hi hk)
  have HLO := Lib.hid (fun x W (hx : x < 26) => letterOf_any x W hx)
  have HL := Lib.hid hl
  generalize hz : l.map Int.toNat = zn at *
  have hs1 : (w.alloc (.cells #[.int .i64 (m : Nat), .slice a l.length cap] 60)).heap.size = w.heap.size + 1 := by simp
  have HS1 := Lib.hid hs1
  have hmw : IntKind.i64.wrap ((m : Int) - 1) = ((m - 1 : Nat) : Int) := by rw [show ((m : Int) - 1) = ((m - 1 : Nat) : Int) by omega]; exact IntWalk.i64_in _ (by omega)
  clear hl hT hz hs1
  go_enter Tryz.func26, Tryz.ntmps26
  have z0b : ∀ o, ((w.alloc (.cells #[.int .i64 (m : Nat), .slice a l.length cap] 60)).alloc o).cell? ⟨w.heap.size, 0, none⟩ = some (.int .i64 (m : Nat)) := fun o => (HX.out _ (alloc_belI _ o)).1
  go_wp2_with fail
  generalize w.alloc (.cells #[.int .i64 (m : Nat), .slice a l.length cap] 60) = w1 at *
  have HA := Lib.hid (alloc_at w1 (.cells #[.int .i64 0, .slice none 0 0] 25))
  have HBA := Lib.hid (alloc_belI w1 (.cells #[.int .i64 0, .slice none 0 0] 25))
  refine (HIN.out _).mono ?_
  rintro e w0 ⟨rfl, rfl⟩
  have hq2 := HA.out
  rw [HS1.out] at hq2
  clear HA z0b
  generalize w1.alloc (.cells #[.int .i64 0, .slice none 0 0] 25) = wa at *
  generalize hr : w.heap.size + 1 = r1 at *
  have HS2 : Hid (r1 = w.heap.size + 1) := Lib.hid hr.symm
  have HQA := Lib.hid hq2
  clear hr hq2
  obtain ⟨z0, z1⟩ := HX.out _ HBA.out
  go_wp2_with fail
  refine (HTO.out _ (HL.out.later (Below.now HB1.out HBA.out))).mono ?_
  rintro e w2 ⟨rfl, hb2⟩
  have HB2 := Lib.hid (Below.now HBA.out hb2)
  have HQ2 := Lib.hid ((hb2.block r1 (Array.getElem?_eq_some_iff.1 HQA.out).1).trans HQA.out)
  clear hb2 HTO z0 z1 HQA
  obtain ⟨z0, z1⟩ := HX.out _ HB2.out
  go_wp2_with fail
  have HST := Lib.hid (Rec2.start 25 36 2 (w := w2) (w1 := w2) (Below.refl _ _) (.int .i64 ((m - 1 : Nat) : Int)))
  clear z0 z1
  generalize w2.alloc (.cells #[.int .i64 ((m - 1 : Nat) : Int), .slice none 0 0] 25) = w3 at *
  generalize hg : w2.heap.size = g at *
  have HG := Lib.hid hg
  clear hg
  go_loopw [5] (fun i wr => ∃ c : Nat, c ≤ m - 1 ∧ i = .int .i64 ((c + 1 : Nat) : Int) ∧ Hid (∃ v, Rec2 25 36 2 w2 wr g (.int .i64 ((m - 1 : Nat) : Int)) v (tsTo m zn c).length (ruleCells (tsTo m zn c)))) (fun i _ => m - (intOf i).toNat)
  case atStart => exact ⟨0, Nat.zero_le _, rfl, Lib.hid ⟨_, HST.out⟩⟩
  case round =>
    clear HST
    obtain ⟨c, hcm, rfl, HV⟩ := hrel
    obtain ⟨v, hv⟩ := HV.out
    have HR := Lib.hid hv
    have HBR := Lib.hid (Below.now HB2.out (by have := hv.below; rw [HG.out] at this; rw [HG.out]; exact this))
    clear hv HV
    obtain ⟨z0, z1⟩ := HX.out _ HBR.out
    by_cases hc : c < m - 1
    · have hci : ((c + 1 : Nat) : Int) < ((m : Nat) : Int) := by omega
      have hcw : IntKind.i64.wrap (((c + 1 : Nat) : Int) - 1) = ((c : Nat) : Int) := by rw [show (((c + 1 : Nat) : Int) - 1) = ((c : Nat) : Int) by omega]; exact IntWalk.i64_in _ (by omega)
      generalize hc1 : c + 1 = c1 at *
      have hc1h := Lib.hid hc1
      clear hc1
      go_wp2_with fail
      generalize hWR : wr = wr0 at *
      clear hWR z0 z1
      go_loopw [6] (fun i wr => ∃ d : Nat, d ≤ m - 1 ∧ i = .int .i64 ((d + 1 : Nat) : Int) ∧ Hid (∃ v, Rec2 25 36 2 w2 wr g (.int .i64 ((m - 1 : Nat) : Int)) v (tsTo m zn c ++ tsRow m zn c d).length (ruleCells (tsTo m zn c ++ tsRow m zn c d)))) (fun i _ => m - (intOf i).toNat)
      case atStart => exact ⟨0, Nat.zero_le _, rfl, Lib.hid ⟨v, by rw [tsRow_zero, List.append_nil]; exact HR.out⟩⟩
      case round =>
        clear HR HBR
        obtain ⟨d, hdm, rfl, HV⟩ := hrel
        obtain ⟨v, hv⟩ := HV.out
        have HR := Lib.hid hv
        have HBI := Lib.hid (Below.now HB2.out (by have := hv.below; rw [HG.out] at this; rw [HG.out]; exact this))
        clear hv HV
        obtain ⟨z0, z1⟩ := HX.out _ HBI.out
        by_cases hd : d < m - 1
        · have hdi : ((d + 1 : Nat) : Int) < ((m : Nat) : Int) := by omega
          have hdw : IntKind.i64.wrap (((d + 1 : Nat) : Int) - 1) = ((d : Nat) : Int) := by rw [show (((d + 1 : Nat) : Int) - 1) = ((d : Nat) : Int) by omega]; exact IntWalk.i64_in _ (by omega)
          have hQ9 : (tsTo m zn c ++ tsRow m zn c d).length ≤ 12 := by
            rw [List.length_append, tsTo_len, tsRow_len]
            have := Nat.mul_le_mul (show c ≤ 2 by omega) (show m - 1 ≤ 3 by omega)
            omega
          have HE : Hid (tsTo m zn c ++ tsRow m zn c (d + 1) = (tsTo m zn c ++ tsRow m zn c d) ++ [(letterN c ++ letterN d, wdE (tm m zn (c + 1) (d + 1)))]) := Lib.hid (by rw [tsRow_succ, List.append_assoc]; rfl)
          have HTMP := Lib.hid (fun W (h : IntsIn W a l) => HTM.out (c + 1) (d + 1) W h (by omega) (by omega))
          have hpl := HTL.out (c + 1) (d + 1) (by omega) (by omega)
          rw [hc1h.out] at HTMP hpl HE
          have HLC := Lib.hid (fun W => HLO.out c W (by omega))
          have HLD := Lib.hid (fun W => HLO.out d W (by omega))
          have hsz : ¬ 9223372036854775807 < (letterN c).size + (letterN d).size := by rw [letterN_size, letterN_size]; decide
          generalize tsTo m zn c ++ tsRow m zn c d = Q at *
          generalize hd1 : d + 1 = d1 at *
          have hd1h := Lib.hid hd1
          generalize tm m zn c1 d1 = p at *
          generalize letterN c = A at *
          generalize letterN d = B at *
          clear hd1
          go_wp2_with fail
          refine (HLC.out _).mono ?_
          rintro e w5 ⟨rfl, hb5⟩
          have HR5 := Lib.hid (HR.out.later hb5)
          have HBI5 := Lib.hid (Below.now HBI.out hb5)
          clear hb5 HLC z0 z1
          go_wp2_with fail
          refine (HLD.out _).mono ?_
          rintro e w6 ⟨rfl, hb6⟩
          have HR6 := Lib.hid (HR5.out.later hb6)
          have HBI6 := Lib.hid (Below.now HBI5.out hb6)
          clear hb6 HLD HR5 HBI5
          have z0a : ∀ o, (w6.alloc o).cell? ⟨w.heap.size, 0, none⟩ = some (.int .i64 (m : Nat)) := fun o => (HX.out _ (Below.now HBI6.out (alloc_belI w6 o))).1
          have z1a : ∀ o, (w6.alloc o).cell? ⟨w.heap.size, 1, none⟩ = some (.slice a l.length cap) := fun o => (HX.out _ (Below.now HBI6.out (alloc_belI w6 o))).2
          have HRB := Lib.hid (alloc_at w6 (.cells #[.string (A ++ B), .string ⟨#[]⟩] 36))
          have HRA := Lib.hid (HR6.out.later (alloc_belI w6 (.cells #[.string (A ++ B), .string ⟨#[]⟩] 36)))
          have HBA6 := Lib.hid (Below.now HBI6.out (alloc_belI w6 (.cells #[.string (A ++ B), .string ⟨#[]⟩] 36)))
          have hvb : Hid (∀ b, v.ownBlock = some b → b < w6.heap.size) := Lib.hid (fun b hb => (HR6.out.own.lt b hb).2)
          have hgb : Hid (g < w6.heap.size) := Lib.hid HR6.out.lt
          have hwb : Hid (w2.heap.size ≤ w6.heap.size) := Lib.hid (HR6.out.below.size)
          go_wp2_with fail
          generalize w6.alloc (.cells #[.string (A ++ B), .string ⟨#[]⟩] 36) = w7 at *
          generalize hrb : w6.heap.size = rb at *
          clear hrb z0a z1a HR6 HBI6
          refine (HTMP.out _ (HL.out.later (Below.now HB1.out HBA6.out))).mono ?_
          rintro e w8 ⟨rfl, hb8⟩
          have HR8 := Lib.hid (HRA.out.later hb8)
          have HRB8 := Lib.hid (block_later HRB.out _ hb8)
          clear hb8 HRA HRB HTMP HBA6
          by_cases hp : p = 0
          · subst hp
            have HR7 := HR8
            have hg7 := HRB8.out
            go_upto_region 14 with fail
            have HN1 : Hid ([Value.string (A ++ B), .string ⟨#[]⟩].length = 1 * 2) := Lib.hid rfl
            have HN2 : Hid (∀ v ∈ [Value.string (A ++ B), .string ⟨#[]⟩], v.oneCell' = true) := Lib.hid (fun v hv => by simp at hv; rcases hv with rfl | rfl <;> rfl)
            obtain ⟨n0, n1⟩ := sys_cells hg7
            obtain ⟨_, y1, _, y3⟩ := HR7.out.facts
            clear hg7
            go_wp2_with (at_builtin; refine wpList_appH (n := Q.length) rfl (.tmp 54) (.tmp 56) rfl Tryz.underlying23 Tryz.infoRule rfl (by decide) rfl HR7.out.own HR7.out.lt rfl HN1.out HN2.out (by unfold maxLen; omega) (by omega) ?_; intro g4 c4 w9 ho9 hg9 hr9; obtain ⟨_, x1, _, x3⟩ := rec_cells (HR7.out.grown (Below.refl _ _) hg9))
            have HP9 := Lib.hid (HR7.out.put (Below.refl _ _) hg9 ho9)
            clear ho9 hg9 hr9 y1 y3 n0 n1 x1 x3
            have F : Hid (∃ v, Rec2 25 36 2 w2 (w9.setCell ⟨g, 1, none⟩ (.slice (some ⟨g4, 0, none⟩) (Q.length + 1) c4)) g (.int .i64 ((m - 1 : Nat) : Int)) v (tsTo m zn c ++ tsRow m zn c (d + 1)).length (ruleCells (tsTo m zn c ++ tsRow m zn c (d + 1)))) := Lib.hid ⟨_, by
              rw [hd1h.out, HE.out, List.length_append, ruleCells_app]
              exact HP9.out⟩
            go_wp2_with fail
            go_roundw
            case rel =>
              have e1 := hd1h.out
              exact ⟨d + 1, by omega, by rw [← e1]; go_num, F⟩
            case measure =>
              have e1 := hd1h.out
              simp [intOf]; omega
          · have hpi : (0 : Int) < ((p : Nat) : Int) := by omega
            have hpw : IntKind.i64.wrap (((p : Nat) : Int) - 1) = ((p - 1 : Nat) : Int) := by rw [show (((p : Nat) : Int) - 1) = ((p - 1 : Nat) : Int) by omega]; exact IntWalk.i64_in _ (by omega)
            have HLP := Lib.hid (fun W => HLO.out (p - 1) W (by omega))
            rw [wdE_pos hp] at HE
            generalize p - 1 = p1 at *
            go_wp2_with fail
            refine (HLP.out _).mono ?_
            rintro e w10 ⟨rfl, hb10⟩
            have HR10 := Lib.hid (HR8.out.later hb10)
            have HRB10 := Lib.hid (block_later HRB8.out _ hb10)
            obtain ⟨m0, m1, f0, f1⟩ := rec_cells HRB10.out
            clear hb10 HR8 HRB8 HLP
            generalize letterN p1 = RP at *
            go_upto_region 14 with fail
            have hg7 : (w10.setCell ⟨rb, 1, none⟩ (.string RP)).heap[rb]? = some (.cells #[.string (A ++ B), .string RP] 36 (0, 0)) := by
              unfold World.setCell
              rw [Array.getElem?_modify, if_pos rfl, HRB10.out]
              rfl
            have HR7 : Hid (Rec2 25 36 2 w2 (w10.setCell ⟨rb, 1, none⟩ (.string RP)) g (.int .i64 ((m - 1 : Nat) : Int)) v Q.length (ruleCells Q)) := Lib.hid (HR10.out.setFar 1 (.string RP) (by have := hgb.out; omega) (fun e => by have := hvb.out _ e; omega) hwb.out)
            clear m0 m1 f0 f1 HR10 HRB10
            generalize w10.setCell ⟨rb, 1, none⟩ (.string RP) = wx at *
            have HN1 : Hid ([Value.string (A ++ B), .string RP].length = 1 * 2) := Lib.hid rfl
            have HN2 : Hid (∀ v ∈ [Value.string (A ++ B), .string RP], v.oneCell' = true) := Lib.hid (fun v hv => by simp at hv; rcases hv with rfl | rfl <;> rfl)
            obtain ⟨n0, n1⟩ := sys_cells hg7
            obtain ⟨_, y1, _, y3⟩ := HR7.out.facts
            clear hg7
            go_wp2_with (at_builtin; refine wpList_appH (n := Q.length) rfl (.tmp 54) (.tmp 56) rfl Tryz.underlying23 Tryz.infoRule rfl (by decide) rfl HR7.out.own HR7.out.lt rfl HN1.out HN2.out (by unfold maxLen; omega) (by omega) ?_; intro g4 c4 w9 ho9 hg9 hr9; obtain ⟨_, x1, _, x3⟩ := rec_cells (HR7.out.grown (Below.refl _ _) hg9))
            have HP9 := Lib.hid (HR7.out.put (Below.refl _ _) hg9 ho9)
            clear ho9 hg9 hr9 y1 y3 n0 n1 x1 x3
            have F : Hid (∃ v, Rec2 25 36 2 w2 (w9.setCell ⟨g, 1, none⟩ (.slice (some ⟨g4, 0, none⟩) (Q.length + 1) c4)) g (.int .i64 ((m - 1 : Nat) : Int)) v (tsTo m zn c ++ tsRow m zn c (d + 1)).length (ruleCells (tsTo m zn c ++ tsRow m zn c (d + 1)))) := Lib.hid ⟨_, by
              rw [hd1h.out, HE.out, List.length_append, ruleCells_app]
              exact HP9.out⟩
            go_wp2_with fail
            go_roundw
            case rel =>
              have e1 := hd1h.out
              exact ⟨d + 1, by omega, by rw [← e1]; go_num, F⟩
            case measure =>
              have e1 := hd1h.out
              simp [intOf]; omega
        · obtain rfl : d = m - 1 := by omega
          have hdi : ¬ ((m - 1 + 1 : Nat) : Int) < ((m : Nat) : Int) := by omega
          have F : Hid (∃ v, Rec2 25 36 2 w2 wr g (.int .i64 ((m - 1 : Nat) : Int)) v (tsTo m zn (c + 1)).length (ruleCells (tsTo m zn (c + 1)))) := Lib.hid ⟨_, by rw [tsTo_succ]; exact HR.out⟩
          generalize hd1 : m - 1 + 1 = d1 at *
          clear hd1
          go_wp2_with fail
          go_roundw
          case rel =>
            have e1 := hc1h.out
            exact ⟨c + 1, by omega, by rw [← e1]; go_num, F⟩
          case measure =>
            have e1 := hc1h.out
            simp [intOf]; omega
    · obtain rfl : c = m - 1 := by omega
      have hci : ¬ ((m - 1 + 1 : Nat) : Int) < ((m : Nat) : Int) := by omega
      generalize hd1 : m - 1 + 1 = d1 at *
      clear hd1
      obtain ⟨y0, y1, _, _⟩ := HR.out.facts
      have hq := (HR.out.below.block r1 (Array.getElem?_eq_some_iff.1 HQ2.out).1).trans HQ2.out
      obtain ⟨a7, c7, rfl⟩ := owns_form HR.out.own
      obtain ⟨⟨f0, f1⟩, ⟨u0, u1⟩, _⟩ := box_sets hq (.int .i64 ((m - 1 : Nat) : Int)) (.slice a7 (tsTo m zn (m - 1)).length c7)
      have F : Hid (RetTS m (tsR m zn) w (.returned (.tuple #[.agg #[.int .i64 ((m - 1 : Nat) : Int), .slice a7 (tsTo m zn (m - 1)).length c7], .bool true])) ((wr.setCell ⟨r1, 0, none⟩ (.int .i64 ((m - 1 : Nat) : Int))).setCell ⟨r1, 1, none⟩ (.slice a7 (tsTo m zn (m - 1)).length c7))) := Lib.hid (by
        have hr1 : r1 < g + 1 := by have := (Array.getElem?_eq_some_iff.1 HQ2.out).1; have := HG.out; omega
        have ho := ownsRow_setCell_below (ownsRow_setCell_below HR.out.own (a := ⟨r1, 0, none⟩) hr1 (.int .i64 ((m - 1 : Nat) : Int))) (a := ⟨r1, 1, none⟩) hr1 (.slice a7 (tsTo m zn (m - 1)).length c7)
        refine ⟨a7, c7, rfl, owns_rules ho, ?_⟩
        exact ((Below.now HB1.out HBR.out).setCell (by have := HS2.out; show w.heap.size ≤ r1; omega) _).setCell (by have := HS2.out; show w.heap.size ≤ r1; omega) _)
      clear hq
      go_wp2_with fail
      refine bodyPost_ret (v := .tuple #[.agg #[.int .i64 ((m - 1 : Nat) : Int), .slice a7 (tsTo m zn (m - 1)).length c7], .bool true]) ?_ rfl F.out
      simp [results, Tryz.results26, go_sem, u0, u1]
end Go.Proofs.YtdhaebbfiaddnaaGreatDoor
namespace Go.Proofs.YtdhaebbfiaddnaaGreatDoor
open Go.RowKit
set_option linter.unusedVariables false
theorem wpList_appB {P : Program} {ops : Array Oper} {rest : List Oper} {o : Oper} {a : Act} {Q : Exit → Act → World → Prop} {T tsl : TypeId} {z : Value} {size bytes : Nat} (hg : o.guard = none) (s x : Operand)
    (ho : o.op = .call { callee := .builtin .append, args := #[s, x], argTypes := #[tsl, tsl] }) (ht : P.underlying tsl = some (.slice T)) (hinfo : (P.info? T).map (fun i => (i.zero, i.size, i.bytes)) = some (some z, size, bytes))
    (hzs : z.cells.size = size) (hpos : 0 < size) {H : Nat} {wr : World} {v : Value} {n : Nat} {xs : List Value} (hs : a.eval s = v) (hb : wr.ownsRow H T size v n xs) (hH : H ≤ wr.heap.size) {ad : Addr} {c m : Nat} {news : List Value} (hx : a.eval x = .slice (some ad) m c)
    (hsrc : ∀ j u, news[j]? = some u → wr.cell? (ad.add j) = some u) (hn : news.length = m * size) (hm : 0 < m) (h1 : ∀ u ∈ news, u.oneCell' = true) (h63 : n + m ≤ maxLen) (hbytes : (n + m) * bytes ≤ 140737488355328)
    (hK : ∀ g cap w', w'.ownsRow H T size (.slice (some ⟨g, 0, none⟩) (n + m) cap) (n + m) (xs ++ news) → wr.grownBy w' v.ownBlock → (v.ownBlock = some g ∨ g = wr.heap.size) → wpList P ops Q rest (a.put o.dst (.slice (some ⟨g, 0, none⟩) (n + m) cap)) w') :
    wpList P ops Q (o :: rest) a wr := by
  obtain ⟨i0, hi, hz0, hz1, hz2⟩ := info_parts hinfo
  exact wpList_append_lies (w := wr) hg s x tsl ho H T i0 z size bytes ht hi hz0 hz1 hz2 hzs hpos v n xs hs hb ad m c news hx hn hsrc h1 hm h63 hbytes hH _ rfl fun g cap w' h2 h3 h4 _ => hK g cap w' h2 h3 h4
end Go.Proofs.YtdhaebbfiaddnaaGreatDoor
