/-
  Rewriting by rules that make a word less: critical pairs that are connected below their words give one normal form.
-/
import Derived.Test.YtgoeadgpbidgiaaGreatDoorMnp14
import Derived.Test.YtgoeadgpbidgiaaGreatDoorMnp01
import Derived.Test.YtgoeadgpbidgiaaGreatDoorMnp09
import Derived.Test.YtgoeadgpbidgiaaGreatDoorMnp10
import Derived.Test.YtgoeadgpbidgiaaGreatDoorMnp13
import Derived.Test.YtgoeadgpbidgiaaGreatDoorMnp05
namespace Go.Proofs.YtgoeadgpbidgiaaGreatDoor
open Go.RowKit Go.Maps
set_option linter.unusedVariables false
theorem Tab10.lt {w : World} (h : Tab10 w) : 1 < w.heap.size := by
  have hg : Tryz.prog.globalNamed "internal/strconv.uint64pow10" = some 1 := by kernel_rfl
  unfold Tab10 Lib.TabIs World.var? at h
  rw [hg] at h
  simp only [Option.bind_some] at h
  rcases Nat.lt_or_ge 1 w.heap.size with h' | h'
  · exact h'
  · rw [Array.getElem?_eq_none h'] at h; simp at h
set_option maxRecDepth 100000 in
set_option maxHeartbeats 4000000 in
theorem implAllReduced_any (k : Int) (R : List RulD) (a : Option Addr) (cap : Nat) (w : World) (hl : RulesIn w a R) (hlen : R.length ≤ 2 ^ 40) (hz : SzR R) (ht : Tab10 w) :
    Calls Tryz.prog 54 #[.agg #[.int .i64 k, .slice a R.length cap]] w (RetAll k R w) := by
  have HL := Lib.hid hl
  have HT := Lib.hid ht
  have HS := Lib.hid (fun W h => implCountAll_any k R a cap W h hlen hz)
  have HLR := Lib.hid (fun W h => implLongestReduced_any k R a cap W h hlen hz)
  have HN := Lib.hid (fun W h => newReader2_any k R a cap W h hlen hz)
  have HA := Lib.hid (fun o => alloc_belowS w o)
  have hbx := alloc_at w (.cells #[.int .i64 k, .slice a R.length cap] 33)
  have HBX : Hid (∀ W2, Below (w.alloc (.cells #[.int .i64 k, .slice a R.length cap] 33)).heap.size (w.alloc (.cells #[.int .i64 k, .slice a R.length cap] 33)) W2 → W2.cell? ⟨w.heap.size, 0, none⟩ = some (.int .i64 k) ∧ W2.cell? ⟨w.heap.size, 1, none⟩ = some (.slice a R.length cap)) := Lib.hid (fun W2 hW2 => sys_cells ((hW2.block w.heap.size (by simp)).trans hbx))
  clear hl hz hbx ht
  go_enter Tryz.func54, Tryz.ntmps54
  go_wp2_with fail
  refine (HS.out _ (HL.out.later (HA.out _))).mono ?_
  rintro e w1 ⟨c, hcn, rfl, hb1⟩
  have HCN := Lib.hid hcn
  have HW1 := Lib.hid (Below.now (HA.out _) hb1)
  have HBX1 : Hid (∀ W2, Below w1.heap.size w1 W2 → W2.cell? ⟨w.heap.size, 0, none⟩ = some (.int .i64 k) ∧ W2.cell? ⟨w.heap.size, 1, none⟩ = some (.slice a R.length cap)) := Lib.hid (fun W2 hW2 => HBX.out W2 (Below.now hb1 hW2))
  have HR0 := Lib.hid (fun W => within_any c 0 256 W)
  clear hb1 HS HBX
  cases hb : inB c 0 256
  · have F : Hid (RetAll k R w (.returned (.tuple #[.slice none 0 0, .bool false])) w1) := Lib.hid (.inl ⟨fun ⟨c', h1, h2, h3⟩ => (by have := h1.uniq HCN.out; subst this; simp [inB] at hb; omega), rfl, HW1.out⟩)
    rw [hb] at HR0
    clear hb hcn
    go_wp2_with (go_at_call 53; refine (HR0.out _).mono ?_; rintro e w' ⟨rfl, rfl⟩)
    go_ret2
    exact F.out
  · have hb2 := inB_bounds hb
    rw [hb] at HR0
    clear hb
    obtain ⟨h, hlg, hcase⟩ := hcn
    rcases hcase with ⟨_, h1⟩ | ⟨h0, hc⟩
    · omega
    have HLG := Lib.hid hlg
    rcases hlg with ⟨_, h1⟩ | ⟨hsp, hh⟩
    · omega
    obtain ⟨_, h8, hk1, hk4⟩ := sys_sizes hsp
    obtain ⟨kn, rfl⟩ := Int.eq_ofNat_of_zero_le (show 0 ≤ k by omega)
    obtain ⟨hn, rfl⟩ := Int.eq_ofNat_of_zero_le h0
    have hG := sysG_of hsp
    have hh' : HtIs R kn ⟨#[]⟩ (hn : Int) := by simpa using hh
    have hps : pSum R kn (hn + 1) ≤ 256 := by simp at hc; omega
    have hge := pSum_ge hh' (hn + 1) (Nat.le_refl _)
    have hhn : hn ≤ 255 := by omega
    have HG := Lib.hid hG
    have HH := Lib.hid hh'
    have HPS := Lib.hid hps
    have HEX : Hid (∃ c, CntIs (kn : Int) R c ∧ 0 ≤ c ∧ c ≤ 256) := Lib.hid ⟨c, HCN.out, hb2.1, hb2.2⟩
    obtain ⟨N, hN⟩ : ∃ N, N = hn + 1 := ⟨_, rfl⟩
    have HNE := Lib.hid hN
    have hN6 : N ≤ 256 := by omega
    have HOT : Hid (∀ i, i ≤ N → (outTo R kn i).length ≤ 256) := Lib.hid (fun i hi => by
      rw [outTo_len hG.ne]; exact Nat.le_trans (pSum_mono R kn (show i ≤ hn + 1 by omega)) hps)
    have HPL : Hid (∀ i, i < N → (wordsF R kn i ⟨#[]⟩).length ≤ 256 ∧ 0 < (wordsF R kn i ⟨#[]⟩).length) := Lib.hid (fun i hi => by
      rw [wordsF_len hG.ne]
      refine ⟨Nat.le_trans (pSum_at R kn (show i < hn + 1 by omega)) hps, ?_⟩
      rcases hh' with ⟨h1, _⟩ | ⟨m, h1, h2, h3⟩
      · omega
      · by_cases h0 : paths R kn i ⟨#[]⟩ = 0
        · exact absurd (paths_zero_le h0 (by omega)) h2
        · omega)
    have HGR := Lib.hid (fun W h => growthA_any kn hn R a cap W h hlen hsp (by omega) (fun i hi => Nat.le_trans (pSum_at R kn (show i < hn + 1 by omega)) (by unfold topB; omega)))
    have HGL : Hid ((growL R kn hn).length = N) := Lib.hid (by rw [hN]; exact growL_len R kn hn)
    have HGA : Hid (∀ j, j < N → nthZ (growL R kn hn) j = (((wordsF R kn j ⟨#[]⟩).length : Nat) : Int)) := Lib.hid (fun j hj => by
      rw [nthZ_lt (by rw [growL_len]; omega), wordsF_len hG.ne]; simp [growL])
    clear hN hsp hh hh' hps hG h8 hc hb2 hge hk1 hk4
    go_wp2_with (go_at_call 53; refine (HR0.out _).mono ?_; rintro e w' ⟨rfl, rfl⟩)
    clear HR0
    obtain ⟨r0, r1⟩ := HBX1.out w1 (Below.refl _ _)
    go_upto_region 4 with fail
    go_cut [14, 15, 16] (fun v u z wx => ∃ ag cg, v = .slice ag (growL R kn hn).length cg ∧ u = .int .i64 ((growL R kn hn).length : Nat) ∧ z = .int .i64 0 ∧ IntsIn wx ag (growL R kn hn) ∧ Below w1.heap.size w1 wx)
    case first =>
      go_region_held3 (fun w' => w'.cell? ⟨w.heap.size, 0, none⟩ = some (.int .i64 (kn : Nat)) ∧ w'.cell? ⟨w.heap.size, 1, none⟩ = some (.slice a R.length cap)) (go_keep) (first
        | (go_at_call 21; refine (HLR.out _ (HL.out.later (Below.now HW1.out (by repeat (first | exact Below.refl _ _ | refine Below.drew ?_ | refine below_drewN ?_ _ | refine Below.alloc ?_ (by simp; try omega) _))))).mono ?_; rintro e w6 ⟨h6, hh6, rfl, hb6⟩; obtain rfl := hh6.uniq HLG.out; have K6 : Hid (Below w1.heap.size w1 w6) := Lib.hid (Below.now (by repeat (first | exact Below.refl _ _ | refine Below.drew ?_ | refine below_drewN ?_ _ | refine Below.alloc ?_ (by simp; try omega) _)) hb6); have t0 := (HBX1.out w6 K6.out).1; have t1 := (HBX1.out w6 K6.out).2; clear hb6 hh6)
        | (go_at_call 59; refine (HGR.out _ (HL.out.later (Below.now HW1.out (Below.now K6.out (by repeat (first | exact Below.refl _ _ | refine Below.drew ?_ | refine below_drewN ?_ _ | refine Below.alloc ?_ (by simp; try omega) _)))))).mono ?_; rintro e w7 ⟨a7, c7, rfl, ho7, hb7⟩; have K7 : Hid (Below w1.heap.size w1 w7) := Lib.hid (Below.now K6.out (Below.now (by repeat (first | exact Below.refl _ _ | refine Below.drew ?_ | refine below_drewN ?_ _ | refine Below.alloc ?_ (by simp; try omega) _)) hb7)); have I7 := Lib.hid (owns_ints ho7); have t2 := (HBX1.out w7 K7.out).1; have t3 := (HBX1.out w7 K7.out).2; clear hb7 ho7))
      all_goals
        go_wp2_with fail
        go_meet
        exact ⟨_, _, rfl, rfl, rfl, I7.out, K7.out⟩
    case rest =>
      obtain ⟨ag, cg, rfl, rfl, rfl, hin, hb2⟩ := hcut
      have HIN := Lib.hid hin
      have HW2 := Lib.hid (Below.now HW1.out hb2)
      have HBX2 : Hid (∀ W2, Below wc.heap.size wc W2 → W2.cell? ⟨w.heap.size, 0, none⟩ = some (.int .i64 (kn : Nat)) ∧ W2.cell? ⟨w.heap.size, 1, none⟩ = some (.slice a R.length cap)) := Lib.hid (fun W2 hW2 => HBX1.out W2 (Below.now hb2 hW2))
      have HB0 : Hid (Bld 9 1 wc wc (.slice none 0 0) (outTo R kn 0).length (strVals (outTo R kn 0))) := Lib.hid (Bld.nil 9 1 (Below.refl _ _))
      clear hin hb2 HBX1 HLR HGR r0 r1
      rw [HGL.out]
      have HIN2 : Hid (∀ W, Below wc.heap.size wc W → ∀ j, j < N → ∃ b off, ag = some ⟨b, off, none⟩ ∧ b < wc.heap.size ∧ W.cell? ⟨b, off + j, none⟩ = some (.int .i64 ((wordsF R kn j ⟨#[]⟩).length : Nat))) := Lib.hid (fun W hW j hj => by
        obtain ⟨b, off, e1, hb, hc⟩ := (HIN.out.later hW).cell (i := j) (by rw [HGL.out]; exact hj)
        obtain ⟨b', off', e2, hb', _⟩ := HIN.out.cell (i := j) (by rw [HGL.out]; exact hj)
        have e3 := e1.symm.trans e2
        cases e3
        have h1 := hc j (by rw [HGL.out]; exact hj)
        rw [HGA.out j hj] at h1
        exact ⟨b, off, e1, hb', h1⟩)
      clear HIN
      go_wp2_with fail
      go_loopw [4, 16] (fun vo vi wr => ∃ i : Nat, i ≤ N ∧ vi = .int .i64 (i : Nat) ∧ Bld 9 1 wc wr vo (outTo R kn i).length (strVals (outTo R kn i))) (fun _ vi _ => N - (intOf vi).toNat)
      case atStart => exact ⟨0, Nat.zero_le _, rfl, HB0.out⟩
      case round =>
        clear HB0
        obtain ⟨i, hi, rfl, hbd⟩ := hrel
        obtain ⟨ao, co, rfl⟩ := owns_form hbd.1
        have HB := Lib.hid hbd
        have hol := HOT.out i hi
        clear hbd
        by_cases hlt : i < N
        · obtain ⟨b0, off, rfl, hb0, hc0⟩ := HIN2.out wr HB.out.2 i hlt
          obtain ⟨s0, s1⟩ := HBX2.out wr HB.out.2
          obtain ⟨hL1, hL2⟩ := HPL.out i hlt
          have HNR := Lib.hid (HN.out wr (HL.out.later (Below.now HW2.out HB.out.2)))
          have HWD := Lib.hid (fun b p W => words_any kn i R b p a cap wr W (by omega) hlen HG.out hL1 (HL.out.later (Below.now HW2.out HB.out.2)) (HT.out.later (Below.now HW2.out HB.out.2)))
          have hos := outTo_succ R kn i
          have hon := HOT.out (i + 1) (by omega)
          have HLR2 : Hid (R = [] ∨ ∀ x, a = some x → x.block < wr.heap.size) := Lib.hid (by
            by_cases hR : R = []
            · exact .inl hR
            · obtain ⟨b', off', e1, hb', _⟩ := (HL.out.later (Below.now HW2.out HB.out.2)).cell (i := 0) (List.length_pos_iff.2 hR)
              exact .inr fun x hx => by rw [e1] at hx; cases hx; exact hb')
          rw [hos, List.length_append] at hon
          have HOS := Lib.hid hos
          clear hos
          generalize wordsF R kn i ⟨#[]⟩ = L at *
          go_wp2_with fail
          refine HNR.out.mono ?_
          rintro e2 w2 ⟨p, b, rfl, hrd, hmp, hom, hp, hbb, hne, hb2⟩
          have HB2 := Lib.hid hb2
          have HEN : Hid (EnvF w2 b p (kn : Nat) a cap R) := Lib.hid ⟨hrd, hmp, HL.out.later (Below.now HW2.out (Below.now HB.out.2 hb2)), HT.out.later (Below.now HW2.out (Below.now HB.out.2 hb2)), ⟨Ne.symm hne, by have := HT.out.lt; have h1 := HW2.out.size; have h2 := HB.out.2.size; omega⟩, by
            rcases HLR2.out with h | h
            · exact .inl h
            · exact .inr fun x hx => by have := h x hx; omega⟩
          have HDA : Hid (DeadAt R kn b w2) := Lib.hid ⟨0, .map [], hom, DMap.start R kn⟩
          clear hrd hmp hom hb2 hne HNR s0 s1 hc0
          go_wp2_with fail
          refine (HWD.out b p w2 HB2.out hbb HEN.out HDA.out).mono ?_
          rintro e3 w3 ⟨aw, cw, rfl, how, hb3⟩
          have HST := Lib.hid (owns_strs1 how)
          have HSR : Hid (Src w3 (.slice aw L.length cw) L.length (strVals L)) := Lib.hid (by
            cases aw with
            | none =>
              obtain ⟨_, _, hb, _⟩ := HST.out.cell hL2
              cases hb
            | some x => exact Src.of_cells HST.out)
          have HN1 : Hid ((strVals L).length = L.length * 1) := Lib.hid (by rw [strVals_length]; omega)
          have HN2 : Hid (∀ u ∈ strVals L, u.oneCell' = true) := Lib.hid (fun u hu => by
            obtain ⟨_, _, rfl⟩ := List.mem_map.1 hu; rfl)
          have HB3 := Lib.hid (HB.out.later hb3)
          clear how hb3 HEN HDA HB2 HB HWD hp hbb
          go_wp2_with (at_builtin; refine wpList_appM rfl (.tmp 21) (.tmp 26) rfl Tryz.underlying48 Tryz.infoStr rfl (by decide) rfl HB3.out rfl HSR.out HN1.out HN2.out ?a1 ?a2 ?a3)
          case a1 => unfold maxLen; omega
          case a2 => omega
          intro v4 w4 hb4 hg4 ho4
          have HB4 : Hid (Bld 9 1 wc w4 v4 (outTo R kn (i + 1)).length (strVals (outTo R kn (i + 1)))) := Lib.hid (by
            rw [HOS.out, List.length_append, strVals_app]; exact hb4)
          obtain ⟨a4, c4, hv4⟩ := owns_form HB4.out.1
          subst hv4
          clear hb4 hg4 ho4
          go_wp2_with fail
          go_roundw
          case rel => exact ⟨i + 1, by omega, by go_num, HB4.out⟩
          case measure => simp [intOf]; omega
        · obtain rfl : i = N := by omega
          have F : Hid (RetAll (kn : Int) R w (.returned (.tuple #[.slice ao (outTo R kn i).length co, .bool true])) wr) := Lib.hid (by
            obtain rfl := HNE.out
            exact .inr ⟨kn, hn, rfl, HG.out, HH.out, HPS.out, HEX.out, ao, co, rfl, owns_mono HB.out.1 HW2.out.size, Below.now HW2.out HB.out.2⟩)
          go_wp2_with fail
          go_ret2
          exact F.out
end Go.Proofs.YtgoeadgpbidgiaaGreatDoor
namespace Go.Proofs.YtgoeadgpbidgiaaGreatDoor
open Go.RowKit
set_option linter.unusedVariables false
/-- what AllReduced is -/
def AllIs (k : Int) (R : List RulD) (L : List ByteArray) (f : Bool) : Prop :=
  (¬ (∃ c, CntIs k R c ∧ 0 ≤ c ∧ c ≤ 256) ∧ L = [] ∧ f = false) ∨
  ∃ (kn h : Nat), k = (kn : Int) ∧ HtIs R kn ⟨#[]⟩ (h : Int) ∧ (∃ c, CntIs k R c ∧ 0 ≤ c ∧ c ≤ 256) ∧ L = outTo R kn (h + 1) ∧ f = true ∧ L.length ≤ 256
theorem AllIs.few {k : Int} {R : List RulD} {L : List ByteArray} {f : Bool} (h : AllIs k R L f) : L.length ≤ 256 := by
  rcases h with ⟨_, rfl, _⟩ | ⟨_, _, _, _, _, _, _, h⟩
  · simp
  · exact h
theorem AllIs.uniq {k : Int} {R : List RulD} {L L' : List ByteArray} {f f' : Bool} (a : AllIs k R L f) (b : AllIs k R L' f') : L = L' ∧ f = f' := by
  rcases a with ⟨a1, a2, a3⟩ | ⟨kn, h, a1, a2, a3, a4, a5, _⟩ <;> rcases b with ⟨b1, b2, b3⟩ | ⟨kn', h', b1, b2, b3, b4, b5, _⟩
  · exact ⟨by rw [a2, b2], by rw [a3, b3]⟩
  · exact absurd b3 a1
  · exact absurd a3 b1
  · obtain rfl : kn = kn' := by omega
    have e := a2.uniq b2
    obtain rfl : h = h' := by omega
    exact ⟨by rw [a4, b4], by rw [a5, b5]⟩
/-- what AllReduced hands back -/
def RetAF (k : Int) (R : List RulD) (w : World) (e : Ending) (w' : World) : Prop :=
  ∃ (L : List ByteArray) (f : Bool) (a : Option Addr) (cap : Nat), AllIs k R L f ∧ e = .returned (.tuple #[.slice a L.length cap, .bool f]) ∧ w'.ownsRow w.heap.size 9 1 (.slice a L.length cap) L.length (strVals L) ∧ Below w.heap.size w w'
theorem RetAll.fn {k : Int} {R : List RulD} {w : World} {e : Ending} {w' : World} (h : RetAll k R w e w') : RetAF k R w e w' := by
  rcases h with ⟨h1, rfl, hb⟩ | ⟨kn, h, h1, hG, h2, h3, h4, a, cap, rfl, ho, hb⟩
  · exact ⟨[], false, none, 0, .inl ⟨h1, rfl, rfl⟩, rfl, World.ownsRow_nil _ _ _ _, hb⟩
  · exact ⟨_, true, a, cap, .inr ⟨kn, h, h1, h2, h4, rfl, rfl, by rw [outTo_len hG.ne]; exact h3⟩, rfl, ho, hb⟩
theorem implAllReduced_fn (k : Int) (R : List RulD) (a : Option Addr) (cap : Nat) (w : World) (hl : RulesIn w a R) (hlen : R.length ≤ 2 ^ 40) (hz : SzR R) (ht : Tab10 w) :
    Calls Tryz.prog 54 #[.agg #[.int .i64 k, .slice a R.length cap]] w (RetAF k R w) := (implAllReduced_any k R a cap w hl hlen hz ht).mono fun _ _ h => h.fn
end Go.Proofs.YtgoeadgpbidgiaaGreatDoor
namespace Go.Proofs.YtgoeadgpbidgiaaGreatDoor
open Go.RowKit
set_option linter.unusedVariables false
def intVals (l : List Int) : List Value := l.map (Value.int .i64)
/-- the numbers below j with a property -/
def listTo (f : Nat → Bool) (j : Nat) : List Int := ((List.range j).filter f).map Int.ofNat
theorem listTo_len (f : Nat → Bool) (j : Nat) : (listTo f j).length ≤ j := by
  unfold listTo
  rw [List.length_map]
  exact Nat.le_trans (List.length_filter_le _ _) (by simp)
end Go.Proofs.YtgoeadgpbidgiaaGreatDoor
namespace Go.Proofs.YtgoeadgpbidgiaaGreatDoor
open Go.RowKit
set_option linter.unusedVariables false
theorem letB_lt97 {k x : Nat} (hx : x < k) (hk : k ≤ 4) : letB (k : Int) (lt97 x) = true := by
  have h : (lt97 x).toNat = 97 + x := by unfold lt97; simp; omega
  unfold letB inB
  rw [h]
  simp
  omega
theorem wordsF_ok {R : List RulD} {k : Nat} (hk : k ≤ 4) : ∀ (m : Nat) (w : ByteArray), okLt (k : Int) w.data.toList → ∀ u ∈ wordsF R k m w, okLt (k : Int) u.data.toList
  | 0, w, hw, u, hu => by rw [List.mem_singleton.1 hu]; exact hw
  | m + 1, w, hw, u, hu => by
    obtain ⟨x, hx, h2⟩ := List.mem_flatMap.1 hu
    split at h2
    · refine wordsF_ok hk m _ ?_ u h2
      intro y hy
      rw [app_lt] at hy
      rcases List.mem_append.1 hy with hy | hy
      · exact hw y hy
      · rw [List.mem_singleton.1 hy]
        exact letB_lt97 (List.mem_range.1 hx) hk
    · cases h2
theorem mem_outTo {R : List RulD} {k i : Nat} {u : ByteArray} (h : u ∈ outTo R k i) : ∃ m, m < i ∧ u ∈ wordsF R k m ⟨#[]⟩ := by
  unfold outTo at h
  obtain ⟨m, hm, h2⟩ := List.mem_flatMap.1 h
  exact ⟨m, List.mem_range.1 hm, h2⟩
/-- the words and the table are made -/
def GoM (k : Int) (R : List RulD) : Prop := ComplP k R ∧ (∃ c, CntIs k R c ∧ 1 ≤ c ∧ c ≤ 40) ∧ ∃ h, LngIs k R h ∧ h ≤ 8
theorem CntIs.one {k : Int} {R : List RulD} {c : Int} (h : CntIs k R c) (h0 : 0 ≤ c) : 1 ≤ c := by
  obtain ⟨l, _, h2⟩ := h
  rcases h2 with ⟨_, rfl⟩ | ⟨h1, rfl⟩
  · omega
  · have := pSum_at R k.toNat (show 0 < l.toNat + 1 by omega)
    have e : paths R k.toNat 0 ⟨#[]⟩ = 1 := rfl
    omega
/-- what is known of the words -/
structure MonW (k : Int) (L : List ByteArray) : Prop where
  few : L.length ≤ 40
  word : ∀ u ∈ L, wordOkB k u = true ∧ u.size ≤ 8
theorem GoM.words {k : Int} {R : List RulD} (h : GoM k R) {L : List ByteArray} (hL : AllIs k R L true) : MonW k L := by
  obtain ⟨hc, ⟨c, hc1, hc2, hc3⟩, hg, hh1, hh2⟩ := h
  rcases hL with ⟨_, _, h3⟩ | ⟨kn, h, rfl, h2, _, rfl, _, _⟩
  · cases h3
  · have G := sysG_of hc.1
    rcases hh1 with ⟨h1, _⟩ | ⟨_, h4⟩
    · exact absurd hc.1 h1
    · rw [Int.toNat_natCast] at h4
      have e := h4.uniq h2
      have hk := hc.1.1.1.1
      obtain ⟨l, hl1, hl2⟩ := hc1
      rcases hl1 with ⟨h5, _⟩ | ⟨_, h5⟩
      · exact absurd hc.1 h5
      · rw [Int.toNat_natCast] at h5 hl2
        have e2 := h5.uniq h2
        subst e2
        refine ⟨?_, fun u hu => ?_⟩
        · rw [outTo_len G.ne]
          rcases hl2 with ⟨h6, _⟩ | ⟨_, rfl⟩
          · omega
          · rw [Int.toNat_natCast] at hc3
            omega
        · obtain ⟨m, hm, hu2⟩ := mem_outTo hu
          have hz := wordsF_size R kn m _ u hu2
          have e0 : (⟨#[]⟩ : ByteArray).size = 0 := rfl
          refine ⟨wordOk_iff.2 ⟨hk, by omega, wordsF_ok (by omega) m _ (fun y hy => by cases hy) u hu2⟩, by omega⟩
theorem word_app {k : Int} {u v : ByteArray} (hu : wordOkB k u = true) (hv : wordOkB k v = true) (h : u.size + v.size ≤ 16) : wordOkB k (u ++ v) = true := by
  obtain ⟨a1, a2, a3⟩ := wordOk_iff.1 hu
  obtain ⟨_, _, b3⟩ := wordOk_iff.1 hv
  refine wordOk_iff.2 ⟨a1, by rw [ByteArray.size_append]; exact h, fun y hy => ?_⟩
  rw [ByteArray.data_append, Array.toList_append] at hy
  rcases List.mem_append.1 hy with hy | hy
  · exact a3 y hy
  · exact b3 y hy
theorem MonW.pair {k : Int} {L : List ByteArray} (h : MonW k L) {i j : Nat} (hi : i < L.length) (hj : j < L.length) : wordOkB k (nthS L i ++ nthS L j) = true ∧ (nthS L i).size + (nthS L j).size ≤ 16 := by
  have h1 := h.word (nthS L i) (by rw [nthS_lt hi]; exact List.getElem_mem hi)
  have h2 := h.word (nthS L j) (by rw [nthS_lt hj]; exact List.getElem_mem hj)
  exact ⟨word_app h1.1 h2.1 (by omega), by omega⟩
/-- what MonoidOf is: words, table, whether it is made -/
def MonIs (k : Int) (R : List RulD) (L : List ByteArray) (P : List Int) (f : Bool) : Prop := (¬ GoM k R ∧ L = [] ∧ P = [] ∧ f = false) ∨ (GoM k R ∧ AllIs k R L true ∧ P = prodF R L ∧ f = true)
theorem MonIs.uniq {k : Int} {R : List RulD} {L L' : List ByteArray} {P P' : List Int} {f f' : Bool} (a : MonIs k R L P f) (b : MonIs k R L' P' f') : L = L' ∧ P = P' ∧ f = f' := by
  rcases a with ⟨a1, rfl, rfl, rfl⟩ | ⟨a1, a2, rfl, rfl⟩ <;> rcases b with ⟨b1, rfl, rfl, rfl⟩ | ⟨b1, b2, rfl, rfl⟩
  · exact ⟨rfl, rfl, rfl⟩
  · exact absurd b1 a1
  · exact absurd a1 b1
  · obtain ⟨rfl, _⟩ := a2.uniq b2
    exact ⟨rfl, rfl, rfl⟩
theorem MonIs.few {k : Int} {R : List RulD} {L : List ByteArray} {P : List Int} {f : Bool} (h : MonIs k R L P f) : L.length ≤ 40 ∧ P.length ≤ 1640 := by
  rcases h with ⟨_, rfl, rfl, _⟩ | ⟨h1, h2, rfl, _⟩
  · exact ⟨by simp, by simp⟩
  · have h3 := (h1.words h2).few
    refine ⟨h3, ?_⟩
    rw [← prodTo_done]
    exact prodTo_few h3 (Nat.le_refl _) (Nat.zero_le _)
/-- what MonoidOf hands back -/
def RetMon (k : Int) (R : List RulD) (w : World) (e : Ending) (w' : World) : Prop :=
  ∃ (L : List ByteArray) (P : List Int) (f : Bool) (aP aL : Option Addr) (cP cL : Nat), MonIs k R L P f ∧ e = .returned (.tuple #[.agg #[.int .i64 (L.length : Nat), .slice aP P.length cP], .slice aL L.length cL, .bool f]) ∧
    w'.ownsRow w.heap.size 3 1 (.slice aP P.length cP) P.length (intVals P) ∧ w'.ownsRow w.heap.size 9 1 (.slice aL L.length cL) L.length (strVals L) ∧ Below w.heap.size w w'
end Go.Proofs.YtgoeadgpbidgiaaGreatDoor
namespace Go.Proofs.YtgoeadgpbidgiaaGreatDoor
set_option linter.unusedVariables false
/-- the number of a word, in base 257 -/
def wtL : Wd → Nat → Nat
  | [], a => a
  | y :: v, a => wtL v (a * 257 + (y.toNat + 1))
def wt (v : Wd) : Nat := wtL v 0
theorem wtL_add : ∀ (v : Wd) (a : Nat), wtL v a = a * 257 ^ v.length + wt v
  | [], a => by simp [wtL, wt]
  | y :: v, a => by
    unfold wt
    simp only [wtL]
    rw [wtL_add v, wtL_add v (0 * 257 + _)]
    rw [List.length_cons, Nat.pow_succ, Nat.add_mul, Nat.zero_mul, Nat.zero_add, Nat.mul_comm (257 ^ v.length) 257, ← Nat.mul_assoc]
    omega
theorem wt_app (u v : Wd) : wt (u ++ v) = wt u * 257 ^ v.length + wt v := by
  have h : ∀ (u : Wd) (a : Nat), wtL (u ++ v) a = wtL v (wtL u a) := fun u => by
    induction u with
    | nil => intro a; rfl
    | cons y u ih => intro a; exact ih _
  unfold wt
  rw [h, wtL_add]
  rfl
theorem wt_cons (y : UInt8) (v : Wd) : wt (y :: v) = (y.toNat + 1) * 257 ^ v.length + wt v := by
  have h := wt_app [y] v
  have e : wt [y] = y.toNat + 1 := by simp [wt, wtL]
  rw [e] at h
  exact h
theorem wt_lt : ∀ (v : Wd), wt v < 257 ^ v.length
  | [] => by simp [wt, wtL]
  | y :: v => by
    have ih := wt_lt v
    have h1 := y.toNat_lt
    rw [wt_cons, List.length_cons, Nat.pow_succ]
    have h2 : (y.toNat + 1) * 257 ^ v.length ≤ 256 * 257 ^ v.length := Nat.mul_le_mul_right _ (by omega)
    omega
theorem wt_ge (y : UInt8) (v : Wd) : 257 ^ v.length ≤ wt (y :: v) := by
  rw [wt_cons]
  have h2 : 1 * 257 ^ v.length ≤ (y.toNat + 1) * 257 ^ v.length := Nat.mul_le_mul_right _ (by omega)
  omega
theorem wt_len {a b : Wd} (h : wt a < wt b) : a.length ≤ b.length := by
  rcases Nat.lt_or_ge b.length a.length with h1 | h1
  · exfalso
    cases a with
    | nil => simp at h1
    | cons y v =>
      have h2 := wt_ge y v
      have h3 := wt_lt b
      have h4 : 257 ^ b.length ≤ 257 ^ v.length := Nat.pow_le_pow_right (by omega) (by simp at h1; omega)
      omega
  · exact h1
theorem wt_ctx {a b : Wd} (x y : Wd) (h : wt a < wt b) : wt (x ++ (a ++ y)) < wt (x ++ (b ++ y)) := by
  have hl := wt_len h
  rw [wt_app x (a ++ y), wt_app x (b ++ y), wt_app a y, wt_app b y, List.length_append, List.length_append, Nat.pow_add, Nat.pow_add]
  have h2 : 257 ^ a.length ≤ 257 ^ b.length := Nat.pow_le_pow_right (by omega) hl
  have h3 : wt x * (257 ^ a.length * 257 ^ y.length) ≤ wt x * (257 ^ b.length * 257 ^ y.length) := Nat.mul_le_mul_left _ (Nat.mul_le_mul_right _ h2)
  have h4 : (wt a + 1) * 257 ^ y.length ≤ wt b * 257 ^ y.length := Nat.mul_le_mul_right _ h
  have h5 : 1 ≤ 257 ^ y.length := Nat.one_le_pow _ _ (by omega)
  rw [Nat.add_mul, Nat.one_mul] at h4
  omega
theorem wt_lex : ∀ {u v : Wd}, u.length = v.length → u < v → wt u < wt v
  | [], [], _, h => absurd h (List.lt_irrefl _)
  | [], _ :: _, h, _ => by simp at h
  | _ :: _, [], h, _ => by simp at h
  | a :: u, b :: v, hl, h => by
    have hl2 : u.length = v.length := by simpa using hl
    rw [wt_cons, wt_cons, hl2]
    rcases List.cons_lt_cons_iff.1 h with h1 | ⟨rfl, h1⟩
    · have h2 := UInt8.lt_iff_toNat_lt.1 h1
      have h3 := wt_lt u
      rw [hl2] at h3
      have h4 : (a.toNat + 1 + 1) * 257 ^ v.length ≤ (b.toNat + 1) * 257 ^ v.length := Nat.mul_le_mul_right _ (by omega)
      rw [Nat.add_mul] at h4
      omega
    · have := wt_lex hl2 h1
      omega
theorem wt_short {u v : Wd} (h : u.length < v.length) : wt u < wt v := by
  cases v with
  | nil => simp at h
  | cons y v =>
    have h1 := wt_lt u
    have h2 := wt_ge y v
    have h3 : 257 ^ u.length ≤ 257 ^ v.length := Nat.pow_le_pow_right (by omega) (by simp at h; omega)
    omega
/-- rules: which left side has which right side -/
abbrev Rs := Wd → Wd → Prop
/-- one step -/
def Stp (E : Rs) (u v : Wd) : Prop := ∃ x l r y, E l r ∧ u = x ++ (l ++ y) ∧ v = x ++ (r ++ y)
theorem Stp.ctx {E : Rs} {u v : Wd} (x y : Wd) (h : Stp E u v) : Stp E (x ++ (u ++ y)) (x ++ (v ++ y)) := by
  obtain ⟨a, l, r, b, h1, rfl, rfl⟩ := h
  exact ⟨x ++ a, l, r, b ++ y, h1, by simp [List.append_assoc], by simp [List.append_assoc]⟩
theorem Stp.mono {E F : Rs} (h : ∀ l r, E l r → F l r) {u v : Wd} (s : Stp E u v) : Stp F u v := by
  obtain ⟨a, l, r, b, h1, h2, h3⟩ := s
  exact ⟨a, l, r, b, h _ _ h1, h2, h3⟩
theorem Stp.rule {E : Rs} {l r : Wd} (h : E l r) : Stp E l r := ⟨[], l, r, [], h, by simp, by simp⟩
/-- each rule makes a word less -/
def Dwn (E : Rs) : Prop := ∀ l r, E l r → wt r < wt l
theorem Dwn.stp {E : Rs} (h : Dwn E) {u v : Wd} (s : Stp E u v) : wt v < wt u := by
  obtain ⟨x, l, r, y, h1, rfl, rfl⟩ := s
  exact wt_ctx x y (h _ _ h1)
/-- many steps -/
inductive Red (E : Rs) : Wd → Wd → Prop
  | refl (u : Wd) : Red E u u
  | step {u v x : Wd} : Stp E u v → Red E v x → Red E u x
theorem Red.trans {E : Rs} {u v x : Wd} (a : Red E u v) (b : Red E v x) : Red E u x := by
  induction a with
  | refl => exact b
  | step s _ ih => exact .step s (ih b)
theorem Red.one {E : Rs} {u v : Wd} (s : Stp E u v) : Red E u v := .step s (.refl _)
theorem Red.ctx {E : Rs} {u v : Wd} (x y : Wd) (h : Red E u v) : Red E (x ++ (u ++ y)) (x ++ (v ++ y)) := by
  induction h with
  | refl => exact .refl _
  | step s _ ih => exact .step (s.ctx x y) ih
theorem Red.le {E : Rs} (hd : Dwn E) {u v : Wd} (h : Red E u v) : wt v ≤ wt u := by
  induction h with
  | refl => exact Nat.le_refl _
  | step s _ ih => have := hd.stp s; omega
theorem Red.mono {E F : Rs} (h : ∀ l r, E l r → F l r) {u v : Wd} (s : Red E u v) : Red F u v := by
  induction s with
  | refl => exact .refl _
  | step s _ ih => exact .step (s.mono h) ih
/-- no step can be made -/
def Irr (E : Rs) (u : Wd) : Prop := ∀ v, ¬ Stp E u v
/-- connected by steps, forth and back, all words below a number -/
inductive Conn (E : Rs) (n : Nat) : Wd → Wd → Prop
  | refl (u : Wd) : Conn E n u u
  | fwd {u v x : Wd} : wt u < n → wt v < n → Stp E u v → Conn E n v x → Conn E n u x
  | bwd {u v x : Wd} : wt u < n → wt v < n → Stp E v u → Conn E n v x → Conn E n u x
theorem Conn.trans {E : Rs} {n : Nat} {u v x : Wd} (a : Conn E n u v) (b : Conn E n v x) : Conn E n u x := by
  induction a with
  | refl => exact b
  | fwd h1 h2 s _ ih => exact .fwd h1 h2 s (ih b)
  | bwd h1 h2 s _ ih => exact .bwd h1 h2 s (ih b)
theorem Conn.symm {E : Rs} {n : Nat} {u v : Wd} (a : Conn E n u v) : Conn E n v u := by
  induction a with
  | refl => exact .refl _
  | fwd h1 h2 s _ ih => exact ih.trans (.bwd h2 h1 s (.refl _))
  | bwd h1 h2 s _ ih => exact ih.trans (.fwd h2 h1 s (.refl _))
theorem Conn.mono {E : Rs} {n k : Nat} (h : n ≤ k) {u v : Wd} (a : Conn E n u v) : Conn E k u v := by
  induction a with
  | refl => exact .refl _
  | fwd h1 h2 s _ ih => exact .fwd (by omega) (by omega) s ih
  | bwd h1 h2 s _ ih => exact .bwd (by omega) (by omega) s ih
theorem Conn.ctx {E : Rs} {w u v : Wd} (x y : Wd) (a : Conn E (wt w) u v) : Conn E (wt (x ++ (w ++ y))) (x ++ (u ++ y)) (x ++ (v ++ y)) := by
  induction a with
  | refl => exact .refl _
  | fwd h1 h2 s _ ih => exact .fwd (wt_ctx x y h1) (wt_ctx x y h2) (s.ctx x y) ih
  | bwd h1 h2 s _ ih => exact .bwd (wt_ctx x y h1) (wt_ctx x y h2) (s.ctx x y) ih
theorem Conn.red {E : Rs} (hd : Dwn E) {n : Nat} {u v : Wd} (h : Red E u v) (hu : wt u < n) : Conn E n u v := by
  induction h with
  | refl => exact .refl _
  | step s _ ih => have := hd.stp s; exact .fwd hu (by omega) s (ih (by omega))
/-- what simulates the steps of E simulates what is connected by them -/
theorem Conn.sim {E F : Rs} {n : Nat} (h : ∀ u v, Stp E u v → wt u < n → wt v < n → Conn F n u v) {u v : Wd} (a : Conn E n u v) : Conn F n u v := by
  induction a with
  | refl => exact .refl _
  | fwd h1 h2 s _ ih => exact (h _ _ s h1 h2).trans ih
  | bwd h1 h2 s _ ih => exact (h _ _ s h2 h1).symm.trans ih
/-- the critical pairs of S are connected in E below their words -/
structure Crit (S E : Rs) : Prop where
  inn : ∀ l1 r1 l2 r2 x y, S l1 r1 → S l2 r2 → l1 = x ++ (l2 ++ y) → Conn E (wt l1) r1 (x ++ (r2 ++ y))
  acr : ∀ l1 r1 l2 r2 x t y, S l1 r1 → S l2 r2 → l1 = x ++ t → l2 = t ++ y → t ≠ [] → x ≠ [] → y ≠ [] → Conn E (wt (x ++ (t ++ y))) (r1 ++ y) (x ++ r2)
/-- two words that are one: the first of two parts lies in front -/
theorem split_two {p1 q1 p2 q2 : Wd} (h : p1 ++ q1 = p2 ++ q2) (hl : p1.length ≤ p2.length) : ∃ t, p2 = p1 ++ t ∧ q1 = t ++ q2 := by
  obtain ⟨t, ht⟩ : p1 <+: p2 := List.prefix_of_prefix_length_le (List.prefix_append p1 q1) (h ▸ List.prefix_append p2 q2) hl
  refine ⟨t, ht.symm, ?_⟩
  rw [← ht, List.append_assoc] at h
  exact List.append_cancel_left h
/-- two steps from one word, the first one's place in front -/
theorem local_le {S : Rs} (hd : Dwn S) (hc : Crit S S) {p1 l1 r1 q1 p2 l2 r2 q2 : Wd} (h1 : S l1 r1) (h2 : S l2 r2) (h : p1 ++ (l1 ++ q1) = p2 ++ (l2 ++ q2)) (hl : p1.length ≤ p2.length) :
    Conn S (wt (p1 ++ (l1 ++ q1))) (p1 ++ (r1 ++ q1)) (p2 ++ (r2 ++ q2)) := by
  obtain ⟨t, rfl, h3⟩ := split_two h hl
  -- l1 ++ q1 = t ++ (l2 ++ q2)
  rcases Nat.lt_or_ge t.length l1.length with hlt | hge
  · obtain ⟨s, rfl, h5⟩ := split_two h3.symm (Nat.le_of_lt hlt)
    -- l1 = t ++ s, l2 ++ q2 = s ++ q1
    have hs : s ≠ [] := by rintro rfl; simp at hlt
    rcases Nat.lt_or_ge s.length l2.length with hlt2 | hge2
    · obtain ⟨y, rfl, rfl⟩ := split_two h5.symm (Nat.le_of_lt hlt2)
      have hy : y ≠ [] := by rintro rfl; simp at hlt2
      by_cases ht : t = []
      · subst ht
        have h6 := hc.inn _ _ _ _ [] y h2 h1 (by simp)
        have h7 := (h6.ctx p1 q2).symm
        simpa [List.append_assoc] using h7
      · have h6 := hc.acr _ _ _ _ t s y h1 h2 rfl rfl hs ht hy
        have h7 := h6.ctx p1 q2
        simpa [List.append_assoc] using h7
    · obtain ⟨y, rfl, rfl⟩ := split_two h5 hge2
      have h6 := hc.inn _ _ _ _ t y h1 h2 rfl
      have h7 := h6.ctx p1 q1
      simpa [List.append_assoc] using h7
  · obtain ⟨s, rfl, rfl⟩ := split_two h3 hge
    -- t = l1 ++ s, q1 = s ++ (l2 ++ q2)
    have s1 : Stp S (p1 ++ (r1 ++ (s ++ (l2 ++ q2)))) (p1 ++ (r1 ++ (s ++ (r2 ++ q2)))) := ⟨p1 ++ (r1 ++ s), l2, r2, q2, h2, by simp [List.append_assoc], by simp [List.append_assoc]⟩
    have s2 : Stp S (p1 ++ (l1 ++ (s ++ (r2 ++ q2)))) (p1 ++ (r1 ++ (s ++ (r2 ++ q2)))) := ⟨p1, l1, r1, _, h1, rfl, rfl⟩
    have s3 : Stp S (p1 ++ (l1 ++ (s ++ (l2 ++ q2)))) (p1 ++ (r1 ++ (s ++ (l2 ++ q2)))) := ⟨p1, l1, r1, _, h1, rfl, rfl⟩
    have s4 : Stp S (p1 ++ (l1 ++ (s ++ (l2 ++ q2)))) (p1 ++ (l1 ++ (s ++ (r2 ++ q2)))) := ⟨p1 ++ (l1 ++ s), l2, r2, q2, h2, by simp [List.append_assoc], by simp [List.append_assoc]⟩
    have d1 := hd.stp s1
    have d3 := hd.stp s3
    have d4 := hd.stp s4
    have h7 : Conn S (wt (p1 ++ (l1 ++ (s ++ (l2 ++ q2))))) (p1 ++ (r1 ++ (s ++ (l2 ++ q2)))) (p1 ++ (l1 ++ (s ++ (r2 ++ q2)))) := .fwd d3 (by omega) s1 (.bwd (by omega) d4 s2 (.refl _))
    simpa [List.append_assoc] using h7
/-- two steps from one word -/
theorem local_all {S : Rs} (hd : Dwn S) (hc : Crit S S) {w a b : Wd} (s1 : Stp S w a) (s2 : Stp S w b) : Conn S (wt w) a b := by
  obtain ⟨p1, l1, r1, q1, h1, rfl, rfl⟩ := s1
  obtain ⟨p2, l2, r2, q2, h2, h, rfl⟩ := s2
  rcases Nat.le_total p1.length p2.length with hl | hl
  · exact local_le hd hc h1 h2 h hl
  · rw [h]
    exact (local_le hd hc h2 h1 h.symm hl).symm
/-- a normal form -/
def Nf (S : Rs) (u x : Wd) : Prop := Red S u x ∧ Irr S x
theorem Nf.ex {S : Rs} (hd : Dwn S) : ∀ (n : Nat) (u : Wd), wt u < n → ∃ x, Nf S u x
  | 0, u, h => by omega
  | n + 1, u, h => by
    by_cases hi : Irr S u
    · exact ⟨u, .refl _, hi⟩
    · obtain ⟨v, hv⟩ : ∃ v, Stp S u v := Classical.byContradiction fun hn => hi fun v hv => hn ⟨v, hv⟩
      have := hd.stp hv
      obtain ⟨x, h1, h2⟩ := Nf.ex hd n v (by omega)
      exact ⟨x, .step hv h1, h2⟩
theorem Nf.conn {S : Rs} (hd : Dwn S) {n : Nat} (hu : ∀ u, wt u < n → ∀ x y, Nf S u x → Nf S u y → x = y) {u v : Wd} (h : Conn S n u v) : ∀ x, Nf S u x → Nf S v x := by
  induction h with
  | refl => intro x hx; exact hx
  | @fwd u v z h1 h2 s _ ih =>
    intro x hx
    obtain ⟨y, hy⟩ := Nf.ex hd _ v (Nat.lt_succ_self _)
    obtain rfl := hu u h1 x y hx ⟨.step s hy.1, hy.2⟩
    exact ih _ hy
  | @bwd u v z h1 h2 s _ ih =>
    intro x hx
    exact ih _ ⟨.step s hx.1, hx.2⟩
theorem Nf.uniq {S : Rs} (hd : Dwn S) (hc : Crit S S) : ∀ (n : Nat) (u : Wd), wt u < n → ∀ x y, Nf S u x → Nf S u y → x = y
  | 0, u, h => by omega
  | n + 1, u, h => by
    rintro x y ⟨h1, h2⟩ ⟨h3, h4⟩
    cases h1 with
    | refl =>
      cases h3 with
      | refl => rfl
      | step s _ => exact absurd s (h2 _)
    | @step _ a _ s1 r1 =>
      cases h3 with
      | refl => exact absurd s1 (h4 _)
      | @step _ b _ s2 r2 =>
        have c := local_all hd hc s1 s2
        have d2 := hd.stp s2
        have IH := Nf.uniq hd hc n
        have h5 := Nf.conn hd (fun v hv => IH v (by omega)) c x ⟨r1, h2⟩
        exact IH b (by omega) x y h5 ⟨r2, h4⟩
/-- words that are connected have one normal form -/
theorem conf_conn {S : Rs} (hd : Dwn S) (hc : Crit S S) {n : Nat} {u v : Wd} (h : Conn S n u v) {x y : Wd} (hx : Nf S u x) (hy : Nf S v y) : x = y :=
  Nf.uniq hd hc _ v (Nat.lt_succ_self _) x y (Nf.conn hd (fun w _ => Nf.uniq hd hc _ w (Nat.lt_succ_self _)) h x hx) hy
end Go.Proofs.YtgoeadgpbidgiaaGreatDoor
