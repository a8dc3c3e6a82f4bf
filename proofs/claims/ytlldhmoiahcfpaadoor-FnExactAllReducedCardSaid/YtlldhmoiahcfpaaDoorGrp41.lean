/-
  AllReduced of the program.
-/
import Derived.Test.YtlldhmoiahcfpaaDoorGrp40
namespace Go.Proofs.YtlldhmoiahcfpaaDoor
open Go.RowKit Go.Maps
set_option linter.unusedVariables false
theorem Tab10.lt {w : World} (h : Tab10 w) : 0 < w.heap.size := by
  have hg : Tryd.prog.globalNamed "internal/strconv.uint64pow10" = some 0 := by kernel_rfl
  unfold Tab10 Lib.TabIs World.var? at h
  rw [hg] at h
  simp only [Option.bind_some] at h
  rcases Nat.lt_or_ge 0 w.heap.size with h' | h'
  · exact h'
  · rw [Array.getElem?_eq_none h'] at h; simp at h
set_option maxRecDepth 100000 in
set_option maxHeartbeats 4000000 in
theorem implAllReduced_any (k : Int) (R : List RulD) (a : Option Addr) (cap : Nat) (w : World) (hl : RulesIn w a R) (hlen : R.length ≤ 2 ^ 40) (hz : SzR R) (ht : Tab10 w) :
    Calls Tryd.prog 11 #[.agg #[.int .i64 k, .slice a R.length cap]] w (RetAll k R w) := by
  have HL := Lib.hid hl
  have HT := Lib.hid ht
  have HS := Lib.hid (fun W h => implCountAll_any k R a cap W h hlen hz)
  have HLR := Lib.hid (fun W h => implLongestReduced_any k R a cap W h hlen hz)
  have HN := Lib.hid (fun W h => newReader2_any k R a cap W h hlen hz)
  have HA := Lib.hid (fun o => alloc_belowS w o)
  have hbx := alloc_at w (.cells #[.int .i64 k, .slice a R.length cap] 29)
  have HBX : Hid (∀ W2, Below (w.alloc (.cells #[.int .i64 k, .slice a R.length cap] 29)).heap.size (w.alloc (.cells #[.int .i64 k, .slice a R.length cap] 29)) W2 → W2.cell? ⟨w.heap.size, 0, none⟩ = some (.int .i64 k) ∧ W2.cell? ⟨w.heap.size, 1, none⟩ = some (.slice a R.length cap)) := Lib.hid (fun W2 hW2 => sys_cells ((hW2.block w.heap.size (by simp)).trans hbx))
  clear hl hz hbx ht
  go_enter Tryd.func11, Tryd.ntmps11
  go_wp2_with fail
  refine (HS.out _ (HL.out.later (HA.out _))).mono ?_
  rintro e w1 ⟨c, hcn, rfl, hb1⟩
  have HCN := Lib.hid hcn
  have HW1 := Lib.hid (Below.now (HA.out _) hb1)
  have HBX1 : Hid (∀ W2, Below w1.heap.size w1 W2 → W2.cell? ⟨w.heap.size, 0, none⟩ = some (.int .i64 k) ∧ W2.cell? ⟨w.heap.size, 1, none⟩ = some (.slice a R.length cap)) := Lib.hid (fun W2 hW2 => HBX.out W2 (Below.now hb1 hW2))
  have HR0 := Lib.hid (fun W => within_any c 0 256 W)
  clear hb1 HS HBX
  cases hb : inB c 0 256
  · have F : Hid (RetAll k R w (.returned (.tuple #[.slice none 0 0, .bool false])) w1) := Lib.hid (.inl ⟨fun ⟨c', h1, h2, h3⟩ => (by have := h1.uniq HCN.out; subst this; simp [inB] at hb; omega), rfl, HW1.out⟩)
    rw [hb] at HR0
    clear hb hcn
    go_wp2_with (go_at_call 26; refine (HR0.out _).mono ?_; rintro e w' ⟨rfl, rfl⟩)
    go_ret2
    exact F.out
  · have hb2 := inB_bounds hb
    rw [hb] at HR0
    clear hb
    obtain ⟨h, hlg, hcase⟩ := hcn
    rcases hcase with ⟨_, h1⟩ | ⟨h0, hc⟩
    · omega
    have HLG := Lib.hid hlg
    rcases hlg with ⟨_, h1⟩ | ⟨hsp, hh⟩
    · omega
    obtain ⟨_, h8, hk1, hk4⟩ := sys_sizes hsp
    obtain ⟨kn, rfl⟩ := Int.eq_ofNat_of_zero_le (show 0 ≤ k by omega)
    obtain ⟨hn, rfl⟩ := Int.eq_ofNat_of_zero_le h0
    have hG := sysG_of hsp
    have hh' : HtIs R kn ⟨#[]⟩ (hn : Int) := by simpa using hh
    have hps : pSum R kn (hn + 1) ≤ 256 := by simp at hc; omega
    have hge := pSum_ge hh' (hn + 1) (Nat.le_refl _)
    have hhn : hn ≤ 255 := by omega
    have HG := Lib.hid hG
    have HH := Lib.hid hh'
    have HPS := Lib.hid hps
    have HEX : Hid (∃ c, CntIs (kn : Int) R c ∧ 0 ≤ c ∧ c ≤ 256) := Lib.hid ⟨c, HCN.out, hb2.1, hb2.2⟩
    obtain ⟨N, hN⟩ : ∃ N, N = hn + 1 := ⟨_, rfl⟩
    have HNE := Lib.hid hN
    have hN6 : N ≤ 256 := by omega
    have HOT : Hid (∀ i, i ≤ N → (outTo R kn i).length ≤ 256) := Lib.hid (fun i hi => by
      rw [outTo_len hG.ne]; exact Nat.le_trans (pSum_mono R kn (show i ≤ hn + 1 by omega)) hps)
    have HPL : Hid (∀ i, i < N → (wordsF R kn i ⟨#[]⟩).length ≤ 256 ∧ 0 < (wordsF R kn i ⟨#[]⟩).length) := Lib.hid (fun i hi => by
      rw [wordsF_len hG.ne]
      refine ⟨Nat.le_trans (pSum_at R kn (show i < hn + 1 by omega)) hps, ?_⟩
      rcases hh' with ⟨h1, _⟩ | ⟨m, h1, h2, h3⟩
      · omega
      · by_cases h0 : paths R kn i ⟨#[]⟩ = 0
        · exact absurd (paths_zero_le h0 (by omega)) h2
        · omega)
    have HGR := Lib.hid (fun W h => growthA_any kn hn R a cap W h hlen hsp (by omega) (fun i hi => Nat.le_trans (pSum_at R kn (show i < hn + 1 by omega)) (by unfold topB; omega)))
    have HGL : Hid ((growL R kn hn).length = N) := Lib.hid (by rw [hN]; exact growL_len R kn hn)
    have HGA : Hid (∀ j, j < N → nthZ (growL R kn hn) j = (((wordsF R kn j ⟨#[]⟩).length : Nat) : Int)) := Lib.hid (fun j hj => by
      rw [nthZ_lt (by rw [growL_len]; omega), wordsF_len hG.ne]; simp [growL])
    clear hN hsp hh hh' hps hG h8 hc hb2 hge hk1 hk4
    go_wp2_with (go_at_call 26; refine (HR0.out _).mono ?_; rintro e w' ⟨rfl, rfl⟩)
    clear HR0
    obtain ⟨r0, r1⟩ := HBX1.out w1 (Below.refl _ _)
    go_upto_region 4 with fail
    go_cut [14, 15, 16] (fun v u z wx => ∃ ag cg, v = .slice ag (growL R kn hn).length cg ∧ u = .int .i64 ((growL R kn hn).length : Nat) ∧ z = .int .i64 0 ∧ IntsIn wx ag (growL R kn hn) ∧ Below w1.heap.size w1 wx)
    case first =>
      go_region_held3 (fun w' => w'.cell? ⟨w.heap.size, 0, none⟩ = some (.int .i64 (kn : Nat)) ∧ w'.cell? ⟨w.heap.size, 1, none⟩ = some (.slice a R.length cap)) (go_keep) (first
        | (go_at_call 29; refine (HLR.out _ (HL.out.later (Below.now HW1.out (by repeat (first | exact Below.refl _ _ | refine Below.drew ?_ | refine below_drewN ?_ _ | refine Below.alloc ?_ (by simp; try omega) _))))).mono ?_; rintro e w6 ⟨h6, hh6, rfl, hb6⟩; obtain rfl := hh6.uniq HLG.out; have K6 : Hid (Below w1.heap.size w1 w6) := Lib.hid (Below.now (by repeat (first | exact Below.refl _ _ | refine Below.drew ?_ | refine below_drewN ?_ _ | refine Below.alloc ?_ (by simp; try omega) _)) hb6); have t0 := (HBX1.out w6 K6.out).1; have t1 := (HBX1.out w6 K6.out).2; clear hb6 hh6)
        | (go_at_call 28; refine (HGR.out _ (HL.out.later (Below.now HW1.out (Below.now K6.out (by repeat (first | exact Below.refl _ _ | refine Below.drew ?_ | refine below_drewN ?_ _ | refine Below.alloc ?_ (by simp; try omega) _)))))).mono ?_; rintro e w7 ⟨a7, c7, rfl, ho7, hb7⟩; have K7 : Hid (Below w1.heap.size w1 w7) := Lib.hid (Below.now K6.out (Below.now (by repeat (first | exact Below.refl _ _ | refine Below.drew ?_ | refine below_drewN ?_ _ | refine Below.alloc ?_ (by simp; try omega) _)) hb7)); have I7 := Lib.hid (owns_ints ho7); have t2 := (HBX1.out w7 K7.out).1; have t3 := (HBX1.out w7 K7.out).2; clear hb7 ho7))
      all_goals
        go_wp2_with fail
        go_meet
        exact ⟨_, _, rfl, rfl, rfl, I7.out, K7.out⟩
    case rest =>
      obtain ⟨ag, cg, rfl, rfl, rfl, hin, hb2⟩ := hcut
      have HIN := Lib.hid hin
      have HW2 := Lib.hid (Below.now HW1.out hb2)
      have HBX2 : Hid (∀ W2, Below wc.heap.size wc W2 → W2.cell? ⟨w.heap.size, 0, none⟩ = some (.int .i64 (kn : Nat)) ∧ W2.cell? ⟨w.heap.size, 1, none⟩ = some (.slice a R.length cap)) := Lib.hid (fun W2 hW2 => HBX1.out W2 (Below.now hb2 hW2))
      have HB0 : Hid (Bld 9 1 wc wc (.slice none 0 0) (outTo R kn 0).length (strVals (outTo R kn 0))) := Lib.hid (Bld.nil 9 1 (Below.refl _ _))
      clear hin hb2 HBX1 HLR HGR r0 r1
      rw [HGL.out]
      have HIN2 : Hid (∀ W, Below wc.heap.size wc W → ∀ j, j < N → ∃ b off, ag = some ⟨b, off, none⟩ ∧ b < wc.heap.size ∧ W.cell? ⟨b, off + j, none⟩ = some (.int .i64 ((wordsF R kn j ⟨#[]⟩).length : Nat))) := Lib.hid (fun W hW j hj => by
        obtain ⟨b, off, e1, hb, hc⟩ := (HIN.out.later hW).cell (i := j) (by rw [HGL.out]; exact hj)
        obtain ⟨b', off', e2, hb', _⟩ := HIN.out.cell (i := j) (by rw [HGL.out]; exact hj)
        have e3 := e1.symm.trans e2
        cases e3
        have h1 := hc j (by rw [HGL.out]; exact hj)
        rw [HGA.out j hj] at h1
        exact ⟨b, off, e1, hb', h1⟩)
      clear HIN
      go_wp2_with fail
      go_loopw [4, 16] (fun vo vi wr => ∃ i : Nat, i ≤ N ∧ vi = .int .i64 (i : Nat) ∧ Bld 9 1 wc wr vo (outTo R kn i).length (strVals (outTo R kn i))) (fun _ vi _ => N - (intOf vi).toNat)
      case atStart => exact ⟨0, Nat.zero_le _, rfl, HB0.out⟩
      case round =>
        clear HB0
        obtain ⟨i, hi, rfl, hbd⟩ := hrel
        obtain ⟨ao, co, rfl⟩ := owns_form hbd.1
        have HB := Lib.hid hbd
        have hol := HOT.out i hi
        clear hbd
        by_cases hlt : i < N
        · obtain ⟨b0, off, rfl, hb0, hc0⟩ := HIN2.out wr HB.out.2 i hlt
          obtain ⟨s0, s1⟩ := HBX2.out wr HB.out.2
          obtain ⟨hL1, hL2⟩ := HPL.out i hlt
          have HNR := Lib.hid (HN.out wr (HL.out.later (Below.now HW2.out HB.out.2)))
          have HWD := Lib.hid (fun b p W => words_any kn i R b p a cap wr W (by omega) hlen HG.out hL1 (HL.out.later (Below.now HW2.out HB.out.2)) (HT.out.later (Below.now HW2.out HB.out.2)))
          have hos := outTo_succ R kn i
          have hon := HOT.out (i + 1) (by omega)
          have HLR2 : Hid (R = [] ∨ ∀ x, a = some x → x.block < wr.heap.size) := Lib.hid (by
            by_cases hR : R = []
            · exact .inl hR
            · obtain ⟨b', off', e1, hb', _⟩ := (HL.out.later (Below.now HW2.out HB.out.2)).cell (i := 0) (List.length_pos_iff.2 hR)
              exact .inr fun x hx => by rw [e1] at hx; cases hx; exact hb')
          rw [hos, List.length_append] at hon
          have HOS := Lib.hid hos
          clear hos
          generalize wordsF R kn i ⟨#[]⟩ = L at *
          go_wp2_with fail
          refine HNR.out.mono ?_
          rintro e2 w2 ⟨p, b, rfl, hrd, hmp, hom, hp, hbb, hne, hb2⟩
          have HB2 := Lib.hid hb2
          have HEN : Hid (EnvF w2 b p (kn : Nat) a cap R) := Lib.hid ⟨hrd, hmp, HL.out.later (Below.now HW2.out (Below.now HB.out.2 hb2)), HT.out.later (Below.now HW2.out (Below.now HB.out.2 hb2)), ⟨Ne.symm hne, by have := HT.out.lt; have h1 := HW2.out.size; have h2 := HB.out.2.size; omega⟩, by
            rcases HLR2.out with h | h
            · exact .inl h
            · exact .inr fun x hx => by have := h x hx; omega⟩
          have HDA : Hid (DeadAt R kn b w2) := Lib.hid ⟨0, .map [], hom, DMap.start R kn⟩
          clear hrd hmp hom hb2 hne HNR s0 s1 hc0
          go_wp2_with fail
          refine (HWD.out b p w2 HB2.out hbb HEN.out HDA.out).mono ?_
          rintro e3 w3 ⟨aw, cw, rfl, how, hb3⟩
          have HST := Lib.hid (owns_strs1 how)
          have HSR : Hid (Src w3 (.slice aw L.length cw) L.length (strVals L)) := Lib.hid (by
            cases aw with
            | none =>
              obtain ⟨_, _, hb, _⟩ := HST.out.cell hL2
              cases hb
            | some x => exact Src.of_cells HST.out)
          have HN1 : Hid ((strVals L).length = L.length * 1) := Lib.hid (by rw [strVals_length]; omega)
          have HN2 : Hid (∀ u ∈ strVals L, u.oneCell' = true) := Lib.hid (fun u hu => by
            obtain ⟨_, _, rfl⟩ := List.mem_map.1 hu; rfl)
          have HB3 := Lib.hid (HB.out.later hb3)
          clear how hb3 HEN HDA HB2 HB HWD hp hbb
          go_wp2_with (at_builtin; refine wpList_appM rfl (.tmp 21) (.tmp 26) rfl Tryd.underlying33 Tryd.infoStr rfl (by decide) rfl HB3.out rfl HSR.out HN1.out HN2.out ?a1 ?a2 ?a3)
          case a1 => unfold maxLen; omega
          case a2 => omega
          intro v4 w4 hb4 hg4 ho4
          have HB4 : Hid (Bld 9 1 wc w4 v4 (outTo R kn (i + 1)).length (strVals (outTo R kn (i + 1)))) := Lib.hid (by
            rw [HOS.out, List.length_append, strVals_app]; exact hb4)
          obtain ⟨a4, c4, hv4⟩ := owns_form HB4.out.1
          subst hv4
          clear hb4 hg4 ho4
          go_wp2_with fail
          go_roundw
          case rel => exact ⟨i + 1, by omega, by go_num, HB4.out⟩
          case measure => simp [intOf]; omega
        · obtain rfl : i = N := by omega
          have F : Hid (RetAll (kn : Int) R w (.returned (.tuple #[.slice ao (outTo R kn i).length co, .bool true])) wr) := Lib.hid (by
            obtain rfl := HNE.out
            exact .inr ⟨kn, hn, rfl, HG.out, HH.out, HPS.out, HEX.out, ao, co, rfl, owns_mono HB.out.1 HW2.out.size, Below.now HW2.out HB.out.2⟩)
          go_wp2_with fail
          go_ret2
          exact F.out
end Go.Proofs.YtlldhmoiahcfpaaDoor
