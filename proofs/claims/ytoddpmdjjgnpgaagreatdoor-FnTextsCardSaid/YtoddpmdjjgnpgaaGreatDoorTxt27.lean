/-
  'FnTexts' holds: for every argument the law answers true and leaves its argument as it was. No condition.
-/
import Derived.Test.YtoddpmdjjgnpgaaGreatDoorTxt16
import Derived.Test.YtoddpmdjjgnpgaaGreatDoorTxt17
import Derived.Test.YtoddpmdjjgnpgaaGreatDoorTxt24
import Derived.Test.YtoddpmdjjgnpgaaGreatDoorTxt21
import Derived.Test.YtoddpmdjjgnpgaaGreatDoorTxt26
import Derived.Test.YtoddpmdjjgnpgaaGreatDoorTxt04
import Derived.Test.YtoddpmdjjgnpgaaGreatDoorTxt01
import Derived.Handed
import Derived.SevenTiedAt
import Derived.ChangeSame
import Derived.Shelf.Vars
import Derived.Test.YtoddpmdjjgnpgaaGreatDoorTie
import Derived.Test.YtoddpmdjjgnpgaaGreatDoorCards
import Derived.LaidMore
import Derived.Lib.LaidTab
import Derived.Stop.Joined
import Derived.Stop.LaidErr
import Derived.Lay
namespace Go.Proofs.YtoddpmdjjgnpgaaGreatDoor.fnTexts
open Go.RowKit
set_option linter.unusedVariables false
theorem links_size {L : List (Int × Int × Bool)} (hr : RngK L) (hl : L.length ≤ 24) : (fmtLinks L).size ≤ 2 ^ 20 := by
  rcases Nat.eq_zero_or_pos L.length with h0 | h0
  · rw [fmtLinks_zero h0]; decide
  · rw [fmtLinks_pos h0]
    have h1 := joinF_size (linkTo L L.length) ⟨#[32]⟩
    have h2 := linkTo_sum hr L.length (Nat.le_refl _)
    have h3 : (linkTo L L.length).length = L.length := linkTo_len (Nat.le_refl _)
    have h4 : (⟨#[32]⟩ : ByteArray).size = 1 := rfl
    rw [h3, h4] at h1
    omega
theorem links_ans {L : List (Int × Int × Bool)} (hr : RngK L) : AnsK (fmtLinks L) L true := by
  rcases Nat.eq_zero_or_pos L.length with h0 | h0
  · exact .inl ⟨fmtLinks_zero h0, List.length_eq_zero_iff.1 h0, rfl⟩
  · refine .inr (.inl ⟨fun e => ?_, h0, hr, rfl, rfl⟩)
    have h1 := fmt_split h0
    rw [e] at h1
    have h2 : splitB ⟨#[61]⟩ 32 = [⟨#[61]⟩] := by decide +kernel
    rw [h2] at h1
    obtain ⟨x, L1, rfl⟩ : ∃ x L1, L = x :: L1 := by
      match L, h0 with
      | x :: L1, _ => exact ⟨x, L1, rfl⟩
    have h3 : (⟨#[61]⟩ : ByteArray) = linkB x := (List.cons.inj h1).1
    have h4 := linkB_list x
    rw [← h3] at h4
    have h5 : (61 : UInt8) = signL x.2.2 := (List.cons.inj h4).1
    unfold signL at h5
    split at h5 <;> cases h5
set_option maxRecDepth 100000 in
set_option maxHeartbeats 8000000 in
theorem walkSmall (a : Option Addr) (l : List UInt8) (cap : Nat) (w : World) (hl : BytesIn w a l) (hlen : l.length ≤ 1048576) (ht : TabE w) (hm : MaxG w) :
    Calls Tryz.prog 4 #[.slice a l.length cap] w fun e w' => e = .returned (.bool true) ∧ Below w.heap.size w w' := by
  have hq0 : ¬ (1048576 : Int) < (l.length : Int) := by omega
  have HM1 := Lib.hid (specMakeSystem_any a l cap 0 w hl (by omega) (by omega))
  have HM2 := Lib.hid (fun W h => specMakeTag_c a l cap 20 W h (by omega) (by omega))
  have HM3 := Lib.hid (fun W h => specMakeSub_c a l cap 40 W h (by omega) (by omega))
  have HM4 := Lib.hid (fun W h => specMakeChain_c a l cap 60 W h (by omega) (by omega))
  have HE := Lib.hid ht
  have HG := Lib.hid hm
  have HL := Lib.hid hl
  have HB := Lib.hid (Below.refl w.heap.size w)
  clear hl ht hm
  go_enter Tryz.func4, Tryz.ntmps4
  go_wp2_with fail
  refine (HM1.out).mono ?_
  rintro e w1 ⟨k, R, aR, cR, hsy, rfl, hR, hb⟩
  replace HE := Lib.hid (HE.out.later hb)
  replace HG := Lib.hid (HG.out.later hb)
  replace HL := Lib.hid (HL.out.later hb)
  replace HB := Lib.hid (Below.now HB.out hb)
  have HSY := Lib.hid hsy
  have HR := Lib.hid hR
  clear hb hR hsy HM1
  have hb0 := alloc_belowS w1 (.cells #[.int .i64 k, .slice aR R.length cR] 25)
  replace HE := Lib.hid (HE.out.later hb0)
  replace HG := Lib.hid (HG.out.later hb0)
  replace HL := Lib.hid (HL.out.later hb0)
  replace HB := Lib.hid (Below.now HB.out hb0)
  replace HR := Lib.hid (HR.out.later hb0)
  have HX3 := Lib.hid (alloc_at w1 (.cells #[.int .i64 k, .slice aR R.length cR] 25))
  clear hb0
  go_upto_region 4 with fail
  generalize w1.alloc (.cells #[.int .i64 k, .slice aR R.length cR] 25) = v1 at *
  generalize w1.heap.size = gHX3 at *
  go_wp2_with fail
  refine (HM2.out _ HL.out).mono ?_
  rintro e w2 ⟨r, T, aT, cT, htg, rfl, hT, hb⟩
  replace HE := Lib.hid (HE.out.later hb)
  replace HG := Lib.hid (HG.out.later hb)
  replace HL := Lib.hid (HL.out.later hb)
  replace HB := Lib.hid (Below.now HB.out hb)
  replace HR := Lib.hid (HR.out.later hb)
  replace HX3 := Lib.hid (block_later HX3.out _ hb)
  have HTG := Lib.hid htg
  have HT := Lib.hid hT
  clear hb hT htg HM2
  have hb0 := alloc_belowS w2 (.cells #[.int .i64 r, .slice aT T.length cT] 49)
  replace HE := Lib.hid (HE.out.later hb0)
  replace HG := Lib.hid (HG.out.later hb0)
  replace HL := Lib.hid (HL.out.later hb0)
  replace HB := Lib.hid (Below.now HB.out hb0)
  replace HR := Lib.hid (HR.out.later hb0)
  replace HX3 := Lib.hid (block_later HX3.out _ hb0)
  replace HT := Lib.hid (HT.out.later hb0)
  have HX4 := Lib.hid (alloc_at w2 (.cells #[.int .i64 r, .slice aT T.length cT] 49))
  clear hb0
  go_upto_region 5 with fail
  generalize w2.alloc (.cells #[.int .i64 r, .slice aT T.length cT] 49) = v2 at *
  generalize w2.heap.size = gHX4 at *
  go_wp2_with fail
  refine (HM3.out _ HL.out).mono ?_
  rintro e w3 ⟨S, aS, cS, hsb, rfl, hS, hb⟩
  replace HE := Lib.hid (HE.out.later hb)
  replace HG := Lib.hid (HG.out.later hb)
  replace HL := Lib.hid (HL.out.later hb)
  replace HB := Lib.hid (Below.now HB.out hb)
  replace HR := Lib.hid (HR.out.later hb)
  replace HX3 := Lib.hid (block_later HX3.out _ hb)
  replace HT := Lib.hid (HT.out.later hb)
  replace HX4 := Lib.hid (block_later HX4.out _ hb)
  have HSB := Lib.hid hsb
  have HS := Lib.hid hS
  clear hb hS hsb HM3
  go_wp2_with fail
  refine (HM4.out _ HL.out).mono ?_
  rintro e w4 ⟨k4, a4, n4, c4, s4, K, aK, cK, ⟨hrk, hk24⟩, rfl, hK, hb⟩
  replace HE := Lib.hid (HE.out.later hb)
  replace HG := Lib.hid (HG.out.later hb)
  replace HL := Lib.hid (HL.out.later hb)
  replace HB := Lib.hid (Below.now HB.out hb)
  replace HR := Lib.hid (HR.out.later hb)
  replace HX3 := Lib.hid (block_later HX3.out _ hb)
  replace HT := Lib.hid (HT.out.later hb)
  replace HX4 := Lib.hid (block_later HX4.out _ hb)
  replace HS := Lib.hid (HS.out.later hb)
  have HRK := Lib.hid hrk
  have HK := Lib.hid hK
  clear hb hK hrk HM4
  have hb0 := alloc_belowS w4 (.cells #[.int .i64 k4, .slice a4 n4 c4] 25)
  replace HE := Lib.hid (HE.out.later hb0)
  replace HG := Lib.hid (HG.out.later hb0)
  replace HL := Lib.hid (HL.out.later hb0)
  replace HB := Lib.hid (Below.now HB.out hb0)
  replace HR := Lib.hid (HR.out.later hb0)
  replace HX3 := Lib.hid (block_later HX3.out _ hb0)
  replace HT := Lib.hid (HT.out.later hb0)
  replace HX4 := Lib.hid (block_later HX4.out _ hb0)
  replace HS := Lib.hid (HS.out.later hb0)
  replace HK := Lib.hid (HK.out.later hb0)
  have HX6 := Lib.hid (alloc_at w4 (.cells #[.int .i64 k4, .slice a4 n4 c4] 25))
  clear hb0
  go_upto_region 7 with fail
  generalize w4.alloc (.cells #[.int .i64 k4, .slice a4 n4 c4] 25) = v4 at *
  generalize w4.heap.size = gHX6 at *
  clear HX6
  clear HL
  have hR12 : R.length ≤ 12 := HSY.out.1.1.2
  have HSZR : Hid (SzR R) := Lib.hid (fun j hj => by have := (HSY.out.1.2 _ (nthR_mem hj)).1.2; unfold maxLen; omega)
  have HFS := Lib.hid (fun W h h2 => implFormatSystem_any k R aR cR W h (by omega) HSZR.out h2)
  have HPS := Lib.hid (fun W h h2 => implParseSystem_x k R W HSY.out h h2)
  have HTP := Lib.hid (subB_part (tagB_part HTG.out).2)
  have hT4 : T.length ≤ 4 := HTP.out.1.2
  have HSZT : Hid (SzS T) := Lib.hid (fun j hj => by have := (HTP.out.2 (nthS T j) (by rw [nthS_lt hj]; exact List.getElem_mem hj)).1; unfold maxLen; omega)
  have HFT := Lib.hid (fun W h h2 => implFormatTag_any r T aT cT W h (by omega) HSZT.out h2)
  have HPT := Lib.hid (fun W h h2 => implParseTag_x r T W HTG.out h h2)
  have HSP := Lib.hid (subB_part HSB.out)
  have hS4 : S.length ≤ 4 := HSP.out.1.2
  have HSZS : Hid (SzS S) := Lib.hid (fun j hj => by have := (HSP.out.2 (nthS S j) (by rw [nthS_lt hj]; exact List.getElem_mem hj)).1; unfold maxLen; omega)
  have HFU := Lib.hid (fun W h => implFormatSub_any S aS cS W h (by omega) HSZS.out (Nat.le_trans (strSum_few (fun p hp => (HSP.out.2 p hp).1)) (by omega)))
  have HPU := Lib.hid (fun W => implParseSub_x S W HSB.out)
  have HFK := Lib.hid (fun W h h2 => implFormatLinks_any K aK cK W h (by omega) HRK.out h2)
  have HPK := Lib.hid (fun W h => implParseLinks_any (fmtLinks K) W (links_size HRK.out hk24) h)
  have HAN := Lib.hid (links_ans HRK.out)
  generalize sysT0 k R = t1 at *
  generalize tagT r T = t2 at *
  generalize subT S = t3 at *
  generalize fmtLinks K = t4 at *
  obtain ⟨x0, x1⟩ := sys_cells HX3.out
  go_wp2_with fail
  refine (HFS.out _ HR.out HE.out.1).mono ?_
  rintro e w5 ⟨rfl, hb⟩
  replace HE := Lib.hid (HE.out.later hb)
  replace HG := Lib.hid (HG.out.later hb)
  replace HB := Lib.hid (Below.now HB.out hb)
  replace HR := Lib.hid (HR.out.later hb)
  replace HX3 := Lib.hid (block_later HX3.out _ hb)
  replace HT := Lib.hid (HT.out.later hb)
  replace HX4 := Lib.hid (block_later HX4.out _ hb)
  replace HS := Lib.hid (HS.out.later hb)
  replace HK := Lib.hid (HK.out.later hb)
  clear hb x0 x1 HFS
  go_wp2_with fail
  refine (HPS.out _ HE.out HG.out).mono ?_
  rintro e w6 ⟨a5, c5, rfl, h5, hb⟩
  replace HE := Lib.hid (HE.out.later hb)
  replace HG := Lib.hid (HG.out.later hb)
  replace HB := Lib.hid (Below.now HB.out hb)
  replace HR := Lib.hid (HR.out.later hb)
  replace HX3 := Lib.hid (block_later HX3.out _ hb)
  replace HT := Lib.hid (HT.out.later hb)
  replace HX4 := Lib.hid (block_later HX4.out _ hb)
  replace HS := Lib.hid (HS.out.later hb)
  replace HK := Lib.hid (HK.out.later hb)
  have HR5 := Lib.hid h5
  clear hb h5 HPS
  have hb0 := alloc_belowS w6 (.cells #[.int .i64 k, .slice a5 R.length c5] 25)
  replace HE := Lib.hid (HE.out.later hb0)
  replace HG := Lib.hid (HG.out.later hb0)
  replace HB := Lib.hid (Below.now HB.out hb0)
  replace HR := Lib.hid (HR.out.later hb0)
  replace HX3 := Lib.hid (block_later HX3.out _ hb0)
  replace HT := Lib.hid (HT.out.later hb0)
  replace HX4 := Lib.hid (block_later HX4.out _ hb0)
  replace HS := Lib.hid (HS.out.later hb0)
  replace HK := Lib.hid (HK.out.later hb0)
  replace HR5 := Lib.hid (HR5.out.later hb0)
  have HX9 := Lib.hid (alloc_at w6 (.cells #[.int .i64 k, .slice a5 R.length c5] 25))
  clear hb0
  go_upto_region 8 with fail
  generalize w6.alloc (.cells #[.int .i64 k, .slice a5 R.length c5] 25) = v6 at *
  generalize w6.heap.size = gHX9 at *
  obtain ⟨x0, x1⟩ := sys_cells HX4.out
  go_wp2_with fail
  refine (HFT.out _ HT.out HE.out.1).mono ?_
  rintro e w7 ⟨rfl, hb⟩
  replace HE := Lib.hid (HE.out.later hb)
  replace HG := Lib.hid (HG.out.later hb)
  replace HB := Lib.hid (Below.now HB.out hb)
  replace HR := Lib.hid (HR.out.later hb)
  replace HX3 := Lib.hid (block_later HX3.out _ hb)
  replace HT := Lib.hid (HT.out.later hb)
  replace HX4 := Lib.hid (block_later HX4.out _ hb)
  replace HS := Lib.hid (HS.out.later hb)
  replace HK := Lib.hid (HK.out.later hb)
  replace HR5 := Lib.hid (HR5.out.later hb)
  replace HX9 := Lib.hid (block_later HX9.out _ hb)
  clear hb x0 x1 HFT
  go_wp2_with fail
  refine (HPT.out _ HE.out HG.out).mono ?_
  rintro e w8 ⟨a7, c7, rfl, h7, hb⟩
  replace HE := Lib.hid (HE.out.later hb)
  replace HG := Lib.hid (HG.out.later hb)
  replace HB := Lib.hid (Below.now HB.out hb)
  replace HR := Lib.hid (HR.out.later hb)
  replace HX3 := Lib.hid (block_later HX3.out _ hb)
  replace HT := Lib.hid (HT.out.later hb)
  replace HX4 := Lib.hid (block_later HX4.out _ hb)
  replace HS := Lib.hid (HS.out.later hb)
  replace HK := Lib.hid (HK.out.later hb)
  replace HR5 := Lib.hid (HR5.out.later hb)
  replace HX9 := Lib.hid (block_later HX9.out _ hb)
  have HT7 := Lib.hid h7
  clear hb h7 HPT
  have hb0 := alloc_belowS w8 (.cells #[.int .i64 r, .slice a7 T.length c7] 49)
  replace HE := Lib.hid (HE.out.later hb0)
  replace HG := Lib.hid (HG.out.later hb0)
  replace HB := Lib.hid (Below.now HB.out hb0)
  replace HR := Lib.hid (HR.out.later hb0)
  replace HX3 := Lib.hid (block_later HX3.out _ hb0)
  replace HT := Lib.hid (HT.out.later hb0)
  replace HX4 := Lib.hid (block_later HX4.out _ hb0)
  replace HS := Lib.hid (HS.out.later hb0)
  replace HK := Lib.hid (HK.out.later hb0)
  replace HR5 := Lib.hid (HR5.out.later hb0)
  replace HX9 := Lib.hid (block_later HX9.out _ hb0)
  replace HT7 := Lib.hid (HT7.out.later hb0)
  have HX11 := Lib.hid (alloc_at w8 (.cells #[.int .i64 r, .slice a7 T.length c7] 49))
  clear hb0
  go_upto_region 9 with fail
  generalize w8.alloc (.cells #[.int .i64 r, .slice a7 T.length c7] 49) = v8 at *
  generalize w8.heap.size = gHX11 at *
  go_wp2_with fail
  refine (HFU.out _ HS.out).mono ?_
  rintro e w9 ⟨rfl, hb⟩
  replace HE := Lib.hid (HE.out.later hb)
  replace HG := Lib.hid (HG.out.later hb)
  replace HB := Lib.hid (Below.now HB.out hb)
  replace HR := Lib.hid (HR.out.later hb)
  replace HX3 := Lib.hid (block_later HX3.out _ hb)
  replace HT := Lib.hid (HT.out.later hb)
  replace HX4 := Lib.hid (block_later HX4.out _ hb)
  replace HS := Lib.hid (HS.out.later hb)
  replace HK := Lib.hid (HK.out.later hb)
  replace HR5 := Lib.hid (HR5.out.later hb)
  replace HX9 := Lib.hid (block_later HX9.out _ hb)
  replace HT7 := Lib.hid (HT7.out.later hb)
  replace HX11 := Lib.hid (block_later HX11.out _ hb)
  clear hb HFU
  go_wp2_with fail
  refine (HPU.out _).mono ?_
  rintro e w10 ⟨a9, c9, rfl, h9, hb⟩
  replace HE := Lib.hid (HE.out.later hb)
  replace HG := Lib.hid (HG.out.later hb)
  replace HB := Lib.hid (Below.now HB.out hb)
  replace HR := Lib.hid (HR.out.later hb)
  replace HX3 := Lib.hid (block_later HX3.out _ hb)
  replace HT := Lib.hid (HT.out.later hb)
  replace HX4 := Lib.hid (block_later HX4.out _ hb)
  replace HS := Lib.hid (HS.out.later hb)
  replace HK := Lib.hid (HK.out.later hb)
  replace HR5 := Lib.hid (HR5.out.later hb)
  replace HX9 := Lib.hid (block_later HX9.out _ hb)
  replace HT7 := Lib.hid (HT7.out.later hb)
  replace HX11 := Lib.hid (block_later HX11.out _ hb)
  have HS9 := Lib.hid h9
  clear hb h9 HPU
  go_wp2_with fail
  refine (HFK.out _ HK.out HE.out.1).mono ?_
  rintro e w11 ⟨rfl, hb⟩
  replace HE := Lib.hid (HE.out.later hb)
  replace HG := Lib.hid (HG.out.later hb)
  replace HB := Lib.hid (Below.now HB.out hb)
  replace HR := Lib.hid (HR.out.later hb)
  replace HX3 := Lib.hid (block_later HX3.out _ hb)
  replace HT := Lib.hid (HT.out.later hb)
  replace HX4 := Lib.hid (block_later HX4.out _ hb)
  replace HS := Lib.hid (HS.out.later hb)
  replace HK := Lib.hid (HK.out.later hb)
  replace HR5 := Lib.hid (HR5.out.later hb)
  replace HX9 := Lib.hid (block_later HX9.out _ hb)
  replace HT7 := Lib.hid (HT7.out.later hb)
  replace HX11 := Lib.hid (block_later HX11.out _ hb)
  replace HS9 := Lib.hid (HS9.out.later hb)
  clear hb HFK
  go_wp2_with fail
  refine (HPK.out _ HE.out).mono ?_
  rintro e w12 ⟨K2, b2, a11, c11, han, rfl, ho11, hb, -⟩
  obtain ⟨rfl, rfl⟩ := han.uniq HAN.out
  replace HE := Lib.hid (HE.out.later hb)
  replace HG := Lib.hid (HG.out.later hb)
  replace HB := Lib.hid (Below.now HB.out hb)
  replace HR := Lib.hid (HR.out.later hb)
  replace HX3 := Lib.hid (block_later HX3.out _ hb)
  replace HT := Lib.hid (HT.out.later hb)
  replace HX4 := Lib.hid (block_later HX4.out _ hb)
  replace HS := Lib.hid (HS.out.later hb)
  replace HK := Lib.hid (HK.out.later hb)
  replace HR5 := Lib.hid (HR5.out.later hb)
  replace HX9 := Lib.hid (block_later HX9.out _ hb)
  replace HT7 := Lib.hid (HT7.out.later hb)
  replace HX11 := Lib.hid (block_later HX11.out _ hb)
  replace HS9 := Lib.hid (HS9.out.later hb)
  have HK11 := Lib.hid (owns_links ho11)
  clear hb ho11 han HPK HAN
  go_wp2_with fail
  refine (implDoubling_any _).mono ?_
  rintro e w13 ⟨a13, c13, rfl, h13, hb⟩
  replace HE := Lib.hid (HE.out.later hb)
  replace HG := Lib.hid (HG.out.later hb)
  replace HB := Lib.hid (Below.now HB.out hb)
  replace HR := Lib.hid (HR.out.later hb)
  replace HX3 := Lib.hid (block_later HX3.out _ hb)
  replace HT := Lib.hid (HT.out.later hb)
  replace HX4 := Lib.hid (block_later HX4.out _ hb)
  replace HS := Lib.hid (HS.out.later hb)
  replace HK := Lib.hid (HK.out.later hb)
  replace HR5 := Lib.hid (HR5.out.later hb)
  replace HX9 := Lib.hid (block_later HX9.out _ hb)
  replace HT7 := Lib.hid (HT7.out.later hb)
  replace HX11 := Lib.hid (block_later HX11.out _ hb)
  replace HS9 := Lib.hid (HS9.out.later hb)
  replace HK11 := Lib.hid (HK11.out.later hb)
  have HO := Lib.hid h13
  clear hb h13
  have HFO := Lib.hid (fun W h => implFormatOrders_any dblL a13 c13 W h (by decide) (by decide) (by decide +kernel))
  have HPO := Lib.hid (fun W h => implParseOrders_x W h)
  generalize ordsT dblL = t5 at *
  go_wp2_with fail
  refine (HFO.out _ HO.out).mono ?_
  rintro e w14 ⟨rfl, hb⟩
  replace HE := Lib.hid (HE.out.later hb)
  replace HG := Lib.hid (HG.out.later hb)
  replace HB := Lib.hid (Below.now HB.out hb)
  replace HR := Lib.hid (HR.out.later hb)
  replace HX3 := Lib.hid (block_later HX3.out _ hb)
  replace HT := Lib.hid (HT.out.later hb)
  replace HX4 := Lib.hid (block_later HX4.out _ hb)
  replace HS := Lib.hid (HS.out.later hb)
  replace HK := Lib.hid (HK.out.later hb)
  replace HR5 := Lib.hid (HR5.out.later hb)
  replace HX9 := Lib.hid (block_later HX9.out _ hb)
  replace HT7 := Lib.hid (HT7.out.later hb)
  replace HX11 := Lib.hid (block_later HX11.out _ hb)
  replace HS9 := Lib.hid (HS9.out.later hb)
  replace HK11 := Lib.hid (HK11.out.later hb)
  replace HO := Lib.hid (HO.out.later hb)
  clear hb HFO
  go_wp2_with fail
  refine (HPO.out _ HE.out.1).mono ?_
  rintro e w15 ⟨a15, c15, rfl, h15, hb⟩
  replace HE := Lib.hid (HE.out.later hb)
  replace HG := Lib.hid (HG.out.later hb)
  replace HB := Lib.hid (Below.now HB.out hb)
  replace HR := Lib.hid (HR.out.later hb)
  replace HX3 := Lib.hid (block_later HX3.out _ hb)
  replace HT := Lib.hid (HT.out.later hb)
  replace HX4 := Lib.hid (block_later HX4.out _ hb)
  replace HS := Lib.hid (HS.out.later hb)
  replace HK := Lib.hid (HK.out.later hb)
  replace HR5 := Lib.hid (HR5.out.later hb)
  replace HX9 := Lib.hid (block_later HX9.out _ hb)
  replace HT7 := Lib.hid (HT7.out.later hb)
  replace HX11 := Lib.hid (block_later HX11.out _ hb)
  replace HS9 := Lib.hid (HS9.out.later hb)
  replace HK11 := Lib.hid (HK11.out.later hb)
  replace HO := Lib.hid (HO.out.later hb)
  have HO5 := Lib.hid h15
  clear hb h15 HPO HO
  have HSS := Lib.hid (fun W h1 h2 => sameSystem_same k R aR a5 cR c5 W h1 h2 (by omega))
  have HW1 := Lib.hid (fun W h1 h2 => words_same T a7 aT c7 cT W h1 h2 (by omega))
  have HW2 := Lib.hid (fun W h1 h2 => words_same S a9 aS c9 cS W h1 h2 (by omega))
  have HC1 := Lib.hid (fun W h1 => implCountBack_any K2 a11 c11 W h1 (by omega))
  have HC2 := Lib.hid (fun W h1 => implCountBack_any K2 aK cK W h1 (by omega))
  have hrr : (r == r) = true := by simp
  have hbt := backTo_le K2 K2.length
  obtain ⟨x0, x1⟩ := sys_cells HX3.out
  obtain ⟨y0, y1⟩ := sys_cells HX9.out
  go_wp2_with fail
  refine (HSS.out _ HR.out HR5.out).mono ?_
  rintro e w16 ⟨rfl, hb⟩
  replace HE := Lib.hid (HE.out.later hb)
  replace HG := Lib.hid (HG.out.later hb)
  replace HB := Lib.hid (Below.now HB.out hb)
  replace HR := Lib.hid (HR.out.later hb)
  replace HX3 := Lib.hid (block_later HX3.out _ hb)
  replace HT := Lib.hid (HT.out.later hb)
  replace HX4 := Lib.hid (block_later HX4.out _ hb)
  replace HS := Lib.hid (HS.out.later hb)
  replace HK := Lib.hid (HK.out.later hb)
  replace HR5 := Lib.hid (HR5.out.later hb)
  replace HX9 := Lib.hid (block_later HX9.out _ hb)
  replace HT7 := Lib.hid (HT7.out.later hb)
  replace HX11 := Lib.hid (block_later HX11.out _ hb)
  replace HS9 := Lib.hid (HS9.out.later hb)
  replace HK11 := Lib.hid (HK11.out.later hb)
  replace HO5 := Lib.hid (HO5.out.later hb)
  clear hb HSS x0 x1 y0 y1 HX3 HX9 HR HR5
  obtain ⟨x0, x1⟩ := sys_cells HX4.out
  obtain ⟨y0, y1⟩ := sys_cells HX11.out
  go_wp2_with fail
  refine (HW1.out _ HT7.out HT.out).mono ?_
  rintro e w17 ⟨rfl, rfl⟩
  clear x0 x1 y0 y1 HW1
  go_wp2_with fail
  refine (HW2.out _ HS9.out HS.out).mono ?_
  rintro e w17 ⟨rfl, rfl⟩
  clear HW2
  go_wp2_with fail
  refine (HC1.out _ HK11.out).mono ?_
  rintro e w18 ⟨rfl, hb⟩
  replace HE := Lib.hid (HE.out.later hb)
  replace HG := Lib.hid (HG.out.later hb)
  replace HB := Lib.hid (Below.now HB.out hb)
  replace HK := Lib.hid (HK.out.later hb)
  replace HK11 := Lib.hid (HK11.out.later hb)
  replace HO5 := Lib.hid (HO5.out.later hb)
  clear hb HC1
  go_wp2_with fail
  refine (HC2.out _ HK.out).mono ?_
  rintro e w19 ⟨rfl, hb⟩
  replace HE := Lib.hid (HE.out.later hb)
  replace HG := Lib.hid (HG.out.later hb)
  replace HB := Lib.hid (Below.now HB.out hb)
  replace HK := Lib.hid (HK.out.later hb)
  replace HK11 := Lib.hid (HK11.out.later hb)
  replace HO5 := Lib.hid (HO5.out.later hb)
  clear hb HC2
  obtain ⟨bo, oo, rfl, hbo, hoc⟩ := HO5.out.cell (i := 1) (by decide)
  have o2 := (hoc 1 (by decide)).2.2
  have o3 : w19.cell? ⟨bo, oo + 3 + 2, none⟩ = some (.bool true) := o2
  have F := HB.out
  clear hbo hoc o2
  go_wp2_with fail
  go_ret
  exact ⟨rfl, F⟩
set_option maxRecDepth 100000 in
theorem walkBig (a : Option Addr) (n cap : Nat) (w : World) (hn : n ≤ 9223372036854775807) (hlen : 1048576 < n) :
    Calls Tryz.prog 4 #[.slice a n cap] w fun e w' => e = .returned (.bool true) ∧ Below w.heap.size w w' := by
  have hq0 : (1048576 : Int) < (n : Int) := by omega
  go_enter Tryz.func4, Tryz.ntmps4
  go_wp2_with fail
  go_ret
  exact ⟨rfl, Below.refl _ _⟩
end Go.Proofs.YtoddpmdjjgnpgaaGreatDoor.fnTexts
namespace Go.Proofs.YtoddpmdjjgnpgaaGreatDoor
open Go.ChangeShapes Go.WideShapes Go.ChangeAt Go.RowKit Go.Joins Go.Deep
set_option linter.unusedVariables false
theorem open_bytesIn {H : Type} {enc : TypeId × Value → H} {P : Program} {w : World} {r : Go.Reach} {b0 : Nat} {t e : TypeId} {v : Value} {d : DataW H} {p : List MemPlace} (ht : P.underlying t = some (.slice e)) (he : P.underlying e = some (.int .u8)) (hc : P.cellsOf e = 1)
    (hv : Value.okWide P w r b0 t v) (h : DataW.Trod enc P w 0 (fun _ => true) true t v d p) : ∃ a l cap, v = .slice a (List.length (α := UInt8) l) cap ∧ BytesIn w a l ∧ l.length ≤ 9223372036854775807 := by
  obtain ⟨a0, len0, cap0, rfl⟩ := okWide_slice ht hv
  obtain ⟨fuel, hf⟩ := h
  rcases open_ints ht he hc hf with ⟨hcs, _⟩ | ⟨a, len, cap, zs, hcs, _, hl, hm, hz, _, hcell, hwz⟩
  · have e : (Value.slice a0 len0 cap0) = .slice none 0 0 := by simpa [Value.cells] using hcs
    rw [e]
    exact ⟨none, [], 0, rfl, .inl rfl, by simp⟩
  · have e : (Value.slice a0 len0 cap0) = .slice (some a) len cap := by simpa [Value.cells] using hcs
    rw [e]
    simp only [if_true] at hz
    have hlen : ((zs.take len).map fun n => UInt8.ofNat n.toNat).length = len := by rw [List.length_map, List.length_take]; omega
    refine ⟨some a, (zs.take len).map fun n => UInt8.ofNat n.toNat, cap, by rw [hlen], ?_, by rw [hlen]; unfold maxLen at hm; omega⟩
    by_cases h0 : len = 0
    · left; subst h0; simp
    · obtain ⟨b, off, rfl, hc'⟩ := ints_at hcell (by omega)
      right
      refine ⟨b, off, rfl, fun i hi => ?_⟩
      rw [List.length_map, hlen] at hi
      rw [hc' i (by omega)]
      have hb := range_u8 hwz i
      rw [List.getElem?_eq_getElem (show i < zs.length by omega), Option.getD_some] at hb
      have e : zs.getD i 0 = zs[i]'(by omega) := by simp [List.getD, List.getElem?_eq_getElem (show i < zs.length by omega)]
      simp only [List.getElem_map, List.getElem_take]
      rw [e]
      congr 2
      simp only [UInt8.toNat_ofNat']
      omega
end Go.Proofs.YtoddpmdjjgnpgaaGreatDoor
namespace Go.Proofs.YtoddpmdjjgnpgaaGreatDoor
open Go
set_option linter.unusedVariables false
theorem ret_shaped {H : Type} {enc : TypeId × Value → H} {a : Assume} {C : Checked} {os : Os} {f : FuncId} {fn : Func} {s : ChangeSpec} {conds : List PathCond} {apart fresh handsOn again : Bool} {X : World → Array Value → Prop}
    (hX : ∀ (w w' : World) (args : Array Value), w.heap = w'.heap → X w args → X w' args)
    (own : ownKnob C.prog.godebug = none) (started : os.Started) (noInit : C.prog.inits.idxOf? f = none) (hfn : C.prog.funcs[f]? = some fn)
    (witness : ∃ (w : World) (tape : Tape) (i : Input), w.os = os ∧ (w.forCall tape i).Shaped C.prog ∧ i.vars = [] ∧ Input.okWide C.prog (w.forCall tape i) .any w.heap.size f i ∧
      ((s.pre enc C.prog fn conds apart (w.forCall tape i).memory i.args ∧ X (w.forCall tape i).memory i.args) ∧ sizedMet enc C.prog fn (OpenSpec.ofChange s) apart (w.forCall tape i).memory i.args) ∧ a.holds C.prog (lone (Frame.enter C.prog f i.args .normal) [] (w.forCall tape i)))
    (contract : ∀ (W : World) (base : Nat) (args : Array Value) (ds gs : List (DataW H)) (before : List MemPlace),
      (∀ (j : Nat) t v, fn.params[j]? = some t → args[j]? = some v → Value.okWide C.prog W .any base t v) →
      DataW.Whole enc C.prog fn.params.toList s.vars apart W args.toList ds gs before → X W args → W.ShapedOpen C.prog →
      Calls C.prog f args W fun e W' => ∃ v, e = .returned v ∧ s.post enc C.prog fn apart fresh handsOn again W args v W') :
    ReturnsInHanded a C os f .any (fun w args => (s.pre enc C.prog fn conds apart w args ∧ X w args) ∧ sizedMet enc C.prog fn (OpenSpec.ofChange s) apart w args) (s.post enc C.prog fn apart fresh handsOn again) := by
  refine returnsInHanded_of_calls own started noInit witness ?_
  intro w tape i _ hsh _ hok hpre hholds
  obtain ⟨_, _, _, fn', hfn', _, _, _, _, hval⟩ := hok
  have e : fn' = fn := Option.some.inj (hfn'.symm.trans hfn)
  subst e
  obtain ⟨⟨⟨ds, gs, before, hw, hc⟩, hx⟩, hz⟩ := hpre
  have hw' := DataW.Whole.of_heap (w' := w.forCall tape i) (by rfl) hw
  refine (contract (w.forCall tape i) w.heap.size i.args ds gs before hval hw' (hX _ _ _ (by rfl) hx) hsh).mono fun e W' ⟨v, he, hp⟩ => ?_
  subst he
  exact ChangeSpec.post_blind hp
end Go.Proofs.YtoddpmdjjgnpgaaGreatDoor
namespace Go.Proofs.YtoddpmdjjgnpgaaGreatDoor.fnTexts
open Go.ChangeShapes Go.WideShapes Go.ChangeAt Go.RowKit Go.Joins
open Go.ChangeMaps (open_string shut_string)
set_option linter.unusedVariables false
theorem own : ownKnob Tryz.prog.godebug = none := by kernel_rfl
theorem cellsB : Tryz.prog.cellsOf 5 = 1 := by kernel_rfl
theorem laidOut : laidOutB Tryz.prog = true := by kernel_rfl
theorem rdT : Tryz.prog.readableRec 22 = true ∧ 22 < Tryz.prog.types.size := ⟨by kernel_rfl, of_decide_eq_true (by kernel_rfl)⟩
theorem rd : ∀ t ∈ Tryz.f4.params.toList, Tryz.prog.readableRec t = true ∧ t < Tryz.prog.types.size := by
  rw [Tryz.params4]
  intro t ht
  simp at ht
  subst ht
  exact rdT
theorem door_met (os : Os) (args : Array Value) : laidMetH Tryz.prog Rows.fnTextsRow.laid ((World.laidAll Tryz.prog os Rows.fnTextsRow.laid).forCall (fun _ _ => 0) ⟨#[], args, []⟩).memory :=
  by rw [MakeChecks.laidMetH_plain _ _ _ (by kernel_rfl)]; exact laidMet_laidAll _ (by kernel_rfl) (by kernel_rfl)
theorem star : "*" ++ "errors.errorString" = "*errors.errorString" := by decide
theorem rowE (u : TypeId) (h : Tryz.prog.typeName? 3 u = some "*errors.errorString") : u = 229 :=
  typeName_ptr_named (nm := "errors.errorString") (by rw [star]; kernel_rfl) (by kernel_rfl) (by decide) u (by rw [star]; exact h)
theorem gR : Tryz.prog.globalNamed "strconv.ErrRange" = some 2 := by kernel_rfl
theorem gS : Tryz.prog.globalNamed "strconv.ErrSyntax" = some 1 := by kernel_rfl
theorem tab_laid {W : World} (h : laidMetH Tryz.prog Rows.fnTextsRow.laid W) : TabE W := by
  rw [MakeChecks.laidMetH_plain _ _ _ (by kernel_rfl)] at h
  have h3 : laidMet Tryz.prog (("internal/strconv.uint64pow10", Lib.tabData .u64 Lib.pow10Tab) :: [("unicode/utf8.acceptRanges", Rows.laid_unicode_utf8_acceptRanges), ("strconv.ErrRange", Rows.laid_strconv_ErrRange), ("strconv.ErrSyntax", Rows.laid_strconv_ErrSyntax), ("unicode/utf8.first", Rows.laid_unicode_utf8_first)]) W := by
    have e : (Rows.laid_internal_strconv_uint64pow10 : DataW Unit) = Lib.tabData .u64 Lib.pow10Tab := by kernel_rfl
    rw [← e]
    exact laidMet.tail (laidMet.tail h)
  have h4 : laidMet Tryz.prog (("strconv.ErrRange", .iface "*errors.errorString" (.ptr (.agg [.lit (.string [118, 97, 108, 117, 101, 32, 111, 117, 116, 32, 111, 102, 32, 114, 97, 110, 103, 101])]))) :: [("strconv.ErrSyntax", Rows.laid_strconv_ErrSyntax), ("unicode/utf8.first", Rows.laid_unicode_utf8_first)]) W := laidMet.tail (laidMet.tail h3)
  have h5 : laidMet Tryz.prog (("strconv.ErrSyntax", .iface "*errors.errorString" (.ptr (.agg [.lit (.string [105, 110, 118, 97, 108, 105, 100, 32, 115, 121, 110, 116, 97, 120])]))) :: [("unicode/utf8.first", Rows.laid_unicode_utf8_first)]) W := laidMet.tail h4
  obtain ⟨a1, s1, v1, _⟩ := laid_sentinel h4 gR (ti := 160) (by kernel_rfl) Tryz.underlying160 rowE Tryz.underlying229 Tryz.underlying231 rfl rfl Tryz.underlying9 (by kernel_rfl) (by kernel_rfl)
  obtain ⟨a2, s2, v2, _⟩ := laid_sentinel h5 gS (ti := 160) (by kernel_rfl) Tryz.underlying160 rowE Tryz.underlying229 Tryz.underlying231 rfl rfl Tryz.underlying9 (by kernel_rfl) (by kernel_rfl)
  refine ⟨Lib.tabIs_of_head (g := 5) (by kernel_rfl) (by kernel_rfl) Tryz.underlying233 Tryz.underlying207 (by kernel_rfl) (by kernel_rfl) h3, ⟨_, _, by simpa using World.var?_cell gS v2 0⟩, ⟨_, _, by simpa using World.var?_cell gR v1 0⟩⟩
theorem walk (a : Option Addr) (l : List UInt8) (cap : Nat) (w : World) (hl : BytesIn w a l) (hn : l.length ≤ 9223372036854775807) (ht : TabE w) (hmx : MaxG w) :
    Calls Tryz.prog 4 #[.slice a l.length cap] w fun e w' => e = .returned (.bool true) ∧ Below w.heap.size w w' := by
  by_cases h : l.length ≤ 1048576
  · exact walkSmall a l cap w hl h ht hmx
  · exact walkBig a l.length cap w hn (by omega)
set_option maxRecDepth 100000 in
theorem lifted (os : Os) (started : os.Started) (H : Type) (enc : TypeId × Value → H) :
    ReturnsInHanded {} Tryz.checked os 4 .any (fun w args => (Rows.fnTextsSpec.pre enc Tryz.prog Tryz.f4 [] false w args ∧ laidMetH Tryz.prog Rows.fnTextsRow.laid w) ∧ sizedMet enc Tryz.prog Tryz.f4 (OpenSpec.ofChange Rows.fnTextsSpec) false w args)
      (Rows.fnTextsSpec.post enc Tryz.prog Tryz.f4 false true false false) := by
  refine ret_shaped (C := Tryz.checked) (X := fun w _ => laidMetH Tryz.prog Rows.fnTextsRow.laid w) (fun _ _ _ hh h => h.of_heap hh) own started (by kernel_rfl) Tryz.func4
    (ChangeSpec.witness_shaped (enc := enc) (C := Tryz.checked) (os := os) (X := fun w _ => laidMetH Tryz.prog Rows.fnTextsRow.laid w) false (World.laidAll Tryz.prog os Rows.fnTextsRow.laid) #[.slice none 0 0] 8 (World.laidAll_os _ _ _) (World.shaped_of_ZipB (by kernel_rfl) (by kernel_rfl)) (by kernel_rfl) (by kernel_rfl) (by kernel_rfl) (door_met os _)) ?_
  intro W base args ds gs before hval0 hW hL hsh
  have ht := tab_laid hL
  have hmx : MaxG W := cell_of_shapedOpen_int (P := Tryz.prog) (g := 0) (t := 3) (zero := #[.int .i64 0]) hsh (of_decide_eq_true (by kernel_rfl)) (by kernel_rfl) rfl (by kernel_rfl) (by kernel_rfl) Tryz.underlying3
  have hval : ∀ (j : Nat) t v, Tryz.f4.params[j]? = some t → args[j]? = some v → Value.okWide Tryz.prog W .any base t v := hval0
  have hW' := hW
  obtain ⟨p, q, hA0, hV, rfl, hfz, hnd⟩ := hW
  have hA : DataW.TrodAll enc Tryz.prog W 0 (fun _ => true) true Tryz.f4.params.toList args.toList ds p := hA0
  rw [Tryz.params4] at hA hval
  obtain ⟨v0, vs0, d0, ds0, p0, q0, hargs, rfl, rfl, h0, r0⟩ := trodAll_cons hA
  obtain ⟨rfl, rfl, rfl⟩ := trodAll_nil r0
  obtain rfl : args = #[v0] := by cases args; simp_all
  obtain ⟨rfl, rfl⟩ := trodVars_none hV
  obtain ⟨a0, l0, c0, rfl, hl0, hn0⟩ := open_bytesIn Tryz.underlying22 Tryz.underlying5 cellsB (hval 0 22 v0 rfl rfl) h0
  clear hA0 hval0
  refine (walk a0 l0 c0 W hl0 hn0 ht hmx).mono fun e W' ⟨he, hg⟩ => ?_
  subst he
  exact ⟨_, rfl, law_post laidOut rd rfl hW' rfl Tryz.underlying4 rfl hg⟩
theorem over : Rows.fnTextsRow.holds Tryz.pinned (OpenSpec.ofChange Rows.fnTextsSpec) :=
  OpenClaim.holds_of_wide 4 Tryz.f4 rfl rfl rfl rfl rfl rfl rfl ⟨rfl, rfl, rfl, rfl, rfl⟩ rfl rfl rfl rfl rfl (by kernel_rfl) Tryz.func4 (by kernel_rfl)
    (of_decide_eq_true (by kernel_rfl)) (by unfold Func.isWrapper; first | (rw [if_pos (by decide +kernel)]; kernel_rfl) | (rw [if_neg (by decide +kernel)]; exact ⟨rfl, rfl⟩))
    (fun os started H enc _ => lifted os started H enc)
theorem proved : Rows.FnTextsCardSaid :=
  Claim7.holds_tied_plain_at .later [] [.data, .data, .data, .data, .sentinel, .sentinel, .pinned] true (true, "c1f79ad4c5e76a52a632a0207ea623855a1a7a36d808b1140bd2ab11558ab600") true
    over (fun _ h => by cases h) (by kernel_rfl) (fun _ h => by cases h) fnTexts_row_tie rfl ⟨rfl, rfl⟩ (by kernel_rfl) rfl
    (fun f fn hf hfn => by
      obtain rfl : f = 4 := Option.some.inj ((show Tryz.prog.funcNamed "loop.example/g03201/laws.FnTexts" = some 4 by kernel_rfl).symm.trans hf) |>.symm
      obtain rfl : fn = Tryz.f4 := (Option.some.inj (Tryz.func4.symm.trans hfn)).symm
      exact ⟨by kernel_rfl, fun j t ht => by
        rw [Tryz.params4] at ht
        have hm : t ∈ [22] := by simpa using Array.mem_of_getElem? ht
        have hall : ([22].all fun u => !Tryz.prog.wantsStandIn u) = true := by kernel_rfl
        exact (show Tryz.prog.wantsStandIn t = false by simpa using List.all_eq_true.1 hall t hm)⟩)
    (by kernel_rfl)
#print axioms proved
end Go.Proofs.YtoddpmdjjgnpgaaGreatDoor.fnTexts
