/-
  IdempotentsOf, of the program and of the reference.
-/
import Derived.Test.YtmgdglghjlggnaaGreatGway23
import Derived.Test.YtmgdglghjlggnaaGreatGway06
import Derived.Test.YtmgdglghjlggnaaGreatGway01
import Derived.Laws.BitsLemmas
import Derived.Laws.BitsAllLaws
import Derived.Deep.DeepCutAuto
import Derived.Test.YtmgdglghjlggnaaGreatGway03
import Derived.Test.YtmgdglghjlggnaaGreatGway04
import Derived.Test.YtmgdglghjlggnaaGreatGway16
import Derived.Test.YtmgdglghjlggnaaGreatGway22
import Derived.Test.YtmgdglghjlggnaaGreatGway15
import Derived.Test.YtmgdglghjlggnaaGreatGway18
import Derived.Test.YtmgdglghjlggnaaGreatGway17
namespace Go.Proofs.YtmgdglghjlggnaaGreat
open Go.RowKit Go.Lib
set_option linter.unusedVariables false
section
variable {m : Nat} {ln zn : List Nat} {S : List ByteArray}
theorem ShortP.val (h : ShortP m ln zn S) (hz4 : zn.length ≤ 4) (hm : m ≤ 40) {i y : Nat} (hi : i < m) (hn : nthS S i ≠ hyB) (hy : y < zn.length) : valF m ln zn (nthS S i ++ letterN y) = nxT m ln zn i y ∧ letIn zn (nthS S i ++ letterN y) ∧ (nthS S i ++ letterN y).size ≤ 41 := by
  obtain ⟨ys, a1, a2, a3, a4, _⟩ := h.some i hi hn
  have hall : ∀ z ∈ ys ++ [y], z < zn.length := fun z hz => by
    rcases List.mem_append.1 hz with h1 | h1
    · exact a1 z h1
    · rw [List.mem_singleton.1 h1]; exact hy
  have e2 : nthS S i ++ letterN y = wdN (ys ++ [y]) := by rw [wdN_snoc, a3]
  refine ⟨?_, ?_, ?_⟩
  · rw [e2, val_wdN m ln zn (fun z hz => by have := hall z hz; omega), List.foldl_append, a4]; rfl
  · rw [e2]
    intro c hc
    rw [wdN_list] at hc
    obtain ⟨z, hz, rfl⟩ := List.mem_map.1 hc
    have h1 := hall z hz
    have h2 := lt97_num (show z < 4 by omega)
    omega
  · rw [e2, wdN_size, List.length_append, List.length_singleton]; omega
end
def RetRl (m : Nat) (ln zn : List Nat) (w : World) (e : Ending) (w' : World) : Prop := ∃ S i y, ShortP m ln zn S ∧ i < m ∧ nthS S i ≠ hyB ∧ y < zn.length ∧ nthS S (nxT m ln zn i y) ≠ nthS S i ++ letterN y ∧ e = .returned (.tuple #[.string (nthS S (nxT m ln zn i y)), .string (nthS S i ++ letterN y), .bool true]) ∧ Below w.heap.size w w'
theorem strs_of_row {w : World} {base g n cap : Nat} {T : TypeId} {l : List ByteArray} (h : w.ownsRow base T 1 (.slice (some ⟨g, 0, none⟩) n cap) n (strVals l)) (hl : l.length = n) : ∀ j, j < l.length → w.cell? ⟨g, 0 + j, none⟩ = some (.string (l.getD j ByteArray.empty)) := fun j hj => by
  rw [Nat.zero_add, h.cellAt j (by omega)]
  simp [strVals, List.getD_eq_getElem?_getD, hj]
theorem slice_head {w : World} {base n c : Nat} {T : TypeId} {a : Option Addr} {xs : List Value} (h : w.ownsRow base T 1 (.slice a n c) n xs) (hn : 0 < n) : ∃ g, a = some ⟨g, 0, none⟩ ∧ base ≤ g := by
  rcases h.2 with ⟨hv, h0⟩ | ⟨g, cap', cur, hv, hb, _⟩
  · simp only [Value.slice.injEq] at hv; omega
  · simp only [Value.slice.injEq] at hv
    exact ⟨g, hv.1, hb⟩
set_option maxRecDepth 20000 in
set_option maxHeartbeats 2000000 in
theorem implShortestRelation_any (m : Nat) (ln zn : List Nat) (l z : List Int) (a : Option Addr) (cap : Nat) (az : Option Addr) (cz : Nat) (w : World) (hle : l = ln.map Int.ofNat) (hze : z = zn.map Int.ofNat) (h : ImgsOk m ln zn) (hl : IntsIn w a l) (hz : IntsIn w az z) :
    Calls Tryz.prog 15 #[.agg #[.int .i64 (m : Nat), .slice a l.length cap], .slice az z.length cz] w (RetRl m ln zn w) := by
  have hm1 := h.tab.lo
  have hm2 := h.tab.hi
  have hz1 := h.one
  have hz4 := h.few
  have hzl : z.length = zn.length := by rw [hze, List.length_map]
  have hll : l.length = m * m := by rw [hle, List.length_map]; exact h.tab.len
  have HIM := Lib.hid (fun W h1 h2 => imagesOk_ok m ln zn l z a cap az cz W hle hze h h1 h2)
  have HSH : Hid (∀ W, IntsIn W a l → IntsIn W az z → Calls Tryz.prog 30 #[.agg #[.int .i64 (m : Nat), .slice a l.length cap], .slice az z.length cz] W (RetSh m ln zn W)) := Lib.hid (fun W h1 h2 => by
    have := shortest_any m ln zn a l.length cap az cz W (by unfold NatsIn; rw [← hle]; exact h1) h.tab.toTb hll (by unfold NatsIn; rw [← hze]; exact h2) h.rng h.few
    rw [← hzl] at this
    exact this)
  have HVA : Hid (∀ v W, letIn zn v → v.size ≤ 41 → IntsIn W a l → IntsIn W az z → Calls Tryz.prog 38 #[.agg #[.int .i64 (m : Nat), .slice a l.length cap], .slice az z.length cz, .string v] W fun e w' => e = .returned (.int .i64 (valF m ln zn v : Nat)) ∧ Below W.heap.size W w') := Lib.hid (fun v W hv hs h1 h2 => by
    have := implValue_any m ln zn a l.length cap az cz v W (by unfold NatsIn; rw [← hle]; exact h1) h.tab.toTb hll (by unfold NatsIn; rw [← hze]; exact h2) h.rng hv (by omega)
    rw [← hzl] at this
    exact this)
  have HNX : Hid (∀ i y, i < m → y < zn.length → nxT m ln zn i y < m) := Lib.hid (fun i y hi hy => h.tab.toTb.tm_lt hi (by
    have := h.rng _ (List.getElem_mem hy)
    rw [List.getD_eq_getElem?_getD, List.getElem?_eq_getElem hy]
    exact this))
  have HVL := Lib.hid (fun S (hs : ShortP m ln zn S) i y => hs.val hz4 hm2 (i := i) (y := y))
  have HEX := Lib.hid (fun S (hs : ShortP m ln zn S) => rel_ex hs hz1 hz4 hm1 HNX.out)
  have HWZ := Lib.hid (fun S (hs : ShortP m ln zn S) i => hs.wsize hm2 (i := i))
  have HB := Lib.hid (alloc_belowS w (.cells #[.int .i64 (m : Nat), .slice a l.length cap] 25))
  have HX : Hid (∀ W, Below (w.alloc (.cells #[.int .i64 (m : Nat), .slice a l.length cap] 25)).heap.size (w.alloc (.cells #[.int .i64 (m : Nat), .slice a l.length cap] 25)) W → W.cell? ⟨w.heap.size, 0, none⟩ = some (.int .i64 (m : Nat)) ∧ W.cell? ⟨w.heap.size, 1, none⟩ = some (.slice a l.length cap)) := Lib.hid (fun W hW => ⟨by rw [hW.cell (by simp)]; simp, by rw [hW.cell (by simp)]; simp⟩)
  have HN := Lib.hid (hl.later HB.out)
  have HZ := Lib.hid (hz.later HB.out)
  rw [hzl] at *
  clear hl hz hle hze h hll hzl
  go_enter Tryz.func15, Tryz.ntmps15
  go_upto_region 1 with fail
  generalize w.alloc (.cells #[.int .i64 (m : Nat), .slice a l.length cap] 25) = w1 at *
  obtain ⟨z0, z1⟩ := HX.out w1 (Below.refl _ _)
  go_wp2_with fail
  refine (HIM.out _ HN.out HZ.out).mono ?_
  rintro e w2 ⟨rfl, hb2⟩
  have HB2 := Lib.hid hb2
  clear z0 z1 hb2
  obtain ⟨z0, z1⟩ := HX.out _ HB2.out
  go_wp2_with fail
  refine (HSH.out _ (HN.out.later HB2.out) (HZ.out.later HB2.out)).mono ?_
  rintro e w3 ⟨S, hsh, aS, cS, rfl, hoS, hb3⟩
  have HSP := Lib.hid hsh
  have hSl := hsh.len
  obtain ⟨gS, rfl, hgS⟩ := slice_head hoS (by omega)
  have HOS := Lib.hid hoS
  have HB3 := Lib.hid (Below.now HB2.out hb3)
  have HCL := Lib.hid (Tryz.slices_Clone_string gS 0 m cS S w3 (by omega) (by omega) (strs_of_row hoS hSl))
  have hgS3 : gS < w3.heap.size := (hoS.lt gS rfl).2
  clear hsh hb3 hoS z0 z1
  go_wp2_with fail
  refine HCL.out.mono ?_
  rintro e w4 ⟨v4, rfl, ho4, _, hb4⟩
  obtain ⟨g4, c4, rfl, hg4⟩ : ∃ g c, v4 = .slice (some ⟨g, 0, none⟩) m c ∧ w3.heap.size ≤ g := by
    rcases ho4.2 with ⟨hv, h0⟩ | ⟨g, cap', cur, hv, hb, _⟩
    · omega
    · exact ⟨g, cap', hv, hb⟩
  have ho5 : w4.ownsRow w3.heap.size 9 1 (.slice (some ⟨g4, 0, none⟩) (blsW S).length c4) (blsW S).length ((blsW S).map encStr) := by
    have e1 : (blsW S).length = m := by unfold blsW; rw [List.length_map, hSl]
    rw [e1, ← strVals_encF]
    rw [List.take_of_length_le (by omega)] at ho4
    exact ho4
  have HSO := Lib.hid (sortW_anyF (blsW S) w3.heap.size g4 c4 w4 ho5 (by unfold blsW; rw [List.length_map]; omega))
  have eL : (blsW S).length = m := by unfold blsW; rw [List.length_map, hSl]
  rw [eL, enc_strValsF] at HSO
  have HPM : Hid (∀ x, x ∈ ((blsW S).mergeSort fun x y => !ltW y x).map (fun x : List UInt8 => (⟨x.toArray⟩ : ByteArray)) ↔ x ∈ S) := Lib.hid (fun x => by
    have h1 := (List.mergeSort_perm (blsW S) fun x y => !ltW y x).map (fun x : List UInt8 => (⟨x.toArray⟩ : ByteArray))
    rw [h1.mem_iff]
    unfold blsW
    rw [List.map_map]
    have e : ((fun x : List UInt8 => (⟨x.toArray⟩ : ByteArray)) ∘ blW) = id := by funext b; simp [blW]
    rw [e, List.map_id])
  have hLl : (((blsW S).mergeSort fun x y => !ltW y x).map (fun x : List UInt8 => (⟨x.toArray⟩ : ByteArray))).length = m := by rw [List.length_map, List.length_mergeSort, eL]
  generalize ((blsW S).mergeSort fun x y => !ltW y x).map (fun x : List UInt8 => (⟨x.toArray⟩ : ByteArray)) = L at *
  have HB4 := Lib.hid hb4
  clear ho4 ho5 eL hb4 HCL
  go_wp2_with fail
  refine HSO.out.mono ?_
  rintro e w5 ⟨rfl, ho5, hg5⟩
  have HO5 := Lib.hid ho5
  have HB35 := Lib.hid (Below.grown HB4.out hg5 HB4.out.size (fun k e => by cases e; exact hg4))
  have HB5 := Lib.hid (Below.now HB3.out HB35.out)
  have HS5 := Lib.hid (owns_later HOS.out HB35.out)
  have HLL := Lib.hid hLl
  clear ho5 hg5 HSO HB4 hLl
  go_wp2_with fail
  go_loopw [27] (fun i wr => ∃ j : Nat, j ≤ m ∧ i = .int .i64 (j : Nat) ∧ Hid (Below w5.heap.size w5 wr) ∧ Hid (∀ t, t < j → nthS L t ≠ hyB → ∀ y, y < zn.length → nthS S (valF m ln zn (nthS L t ++ letterN y)) = nthS L t ++ letterN y)) (fun i _ => m - (intOf i).toNat)
  case atStart => exact ⟨0, Nat.zero_le _, rfl, Lib.hid (Below.refl _ _), Lib.hid (fun t ht => by omega)⟩
  case round =>
    obtain ⟨j, hj, rfl, HW, HALL⟩ := hrel
    by_cases hlt : j < m
    · have hcj : wr.cell? ⟨g4, j, none⟩ = some (.string (nthS L j)) := by
        have h1 := (owns_later HO5.out HW.out).cellAt j (by omega)
        have h2 := HLL.out
        rw [h1, nthS_lt (by omega)]
        simp [strVals, show j < L.length by omega]
      have hmem : nthS L j ∈ S := (HPM.out _).1 (by rw [nthS_lt (by have := HLL.out; omega)]; exact List.getElem_mem _)
      obtain ⟨v, hv, hvE⟩ : ∃ v, v < m ∧ nthS S v = nthS L j := by
        obtain ⟨v, hv, e⟩ := List.getElem_of_mem hmem
        exact ⟨v, by omega, by rw [nthS_lt hv]; exact e⟩
      have HALL2 := Lib.hid (fun (hq : nthS L j ≠ hyB → ∀ y, y < zn.length → nthS S (valF m ln zn (nthS L j ++ letterN y)) = nthS L j ++ letterN y) t (ht : t < j + 1) => show nthS L t ≠ hyB → ∀ y, y < zn.length → nthS S (valF m ln zn (nthS L t ++ letterN y)) = nthS L t ++ letterN y from by
        by_cases e : t = j
        · rw [e]; exact hq
        · exact HALL.out t (by omega))
      have HVV := Lib.hid (HVL.out S HSP.out v)
      have hws := HWZ.out S HSP.out v hv
      have HVE := Lib.hid hvE
      rw [hvE] at HVV hws
      clear hmem hvE HALL
      obtain ⟨s, hs⟩ : ∃ s, nthS L j = s := ⟨_, rfl⟩
      rw [hs] at hcj HVV hws HVE HALL2
      have HSE := Lib.hid hs
      clear hs
      cases hq : (s.toList == [45])
      · have HNE : Hid (s ≠ hyB) := Lib.hid (fun e => by
          have h2 : isHy s = true := isHy_iff.2 e
          unfold isHy at h2
          rw [hq] at h2
          cases h2)
        generalize hW : wr = wr0 at *
        have HWE := Lib.hid hW
        clear hW
        go_wp2_with fail
        clear hcj
        go_loopw [35] (fun i wr => ∃ y : Nat, y ≤ zn.length ∧ i = .int .i64 (y : Nat) ∧ Hid (Below w5.heap.size w5 wr) ∧ Hid (∀ t, t < y → nthS S (valF m ln zn (s ++ letterN t)) = s ++ letterN t)) (fun i _ => zn.length - (intOf i).toNat)
        case atStart => exact ⟨0, Nat.zero_le _, rfl, HW, Lib.hid (fun t ht => by omega)⟩
        case round =>
          clear HW
          obtain ⟨y, hy, rfl, HW, HY⟩ := hrel
          by_cases hyl : y < zn.length
          · obtain ⟨e1, e2, e3⟩ := HVV.out y hv HNE.out hyl
            have hnm := HNX.out v y hv hyl
            have HLT := Lib.hid (fun W => letterOf_any y W (by omega))
            have hn1 : (letterN y).size = 1 := rfl
            have hn2 : ¬ 9223372036854775807 < s.size + 1 := by omega
            have HVC := Lib.hid (fun W => HVA.out (s ++ letterN y) W e2 e3)
            have HE1 := Lib.hid e1
            rw [e1] at HVC
            clear e1 e2 e3
            go_wp2_with fail
            refine (HLT.out _).mono ?_
            rintro e w7 ⟨rfl, hb7⟩
            have HB7 := Lib.hid (Below.now HW.out hb7)
            clear hb7
            obtain ⟨z0, z1⟩ := HX.out _ (Below.now HB5.out HB7.out)
            go_wp2_with fail
            refine (HVC.out _ (HN.out.later (Below.now HB5.out HB7.out)) (HZ.out.later (Below.now HB5.out HB7.out))).mono ?_
            rintro e w8 ⟨rfl, hb8⟩
            have HB8 := Lib.hid (Below.now HB7.out hb8)
            clear hb8 z0 z1
            have hcn : w8.cell? ⟨gS, nxT m ln zn v y, none⟩ = some (.string (nthS S (nxT m ln zn v y))) := by
              have h1 := (owns_later HS5.out HB8.out).cellAt (nxT m ln zn v y) (by omega)
              rw [h1, nthS_lt (by omega)]
              simp [strVals, show nxT m ln zn v y < S.length by omega]
            have HNXE : Hid (∀ q, nxT m ln zn v y = q → valF m ln zn (s ++ letterN y) = q) := Lib.hid (fun q hq => by rw [HE1.out, hq])
            have HRET : Hid (∀ q u, nxT m ln zn v y = q → nthS S q = u → u ≠ s ++ letterN y → RetRl m ln zn w (.returned (.tuple #[.string u, .string (s ++ letterN y), .bool true])) w8) := Lib.hid (fun q u hq hu hne => by
              subst hq
              subst hu
              refine ⟨S, v, y, HSP.out, hv, by rw [HVE.out]; exact HNE.out, hyl, by rw [HVE.out]; exact hne, by rw [HVE.out], Below.now HB.out (Below.now HB5.out HB8.out)⟩)
            obtain ⟨q, hqn⟩ : ∃ q, nxT m ln zn v y = q := ⟨_, rfl⟩
            have HQN := Lib.hid hqn
            rw [hqn] at hnm hcn
            have hq2 : (q : Int) < (m : Int) := by omega
            obtain ⟨u, hu⟩ : ∃ u, nthS S q = u := ⟨_, rfl⟩
            have HUU := Lib.hid hu
            rw [hu] at hcn
            rw [hqn]
            clear hqn hu
            obtain ⟨x, hx⟩ : ∃ x, s ++ letterN y = x := ⟨_, rfl⟩
            have HXX := Lib.hid hx
            have HRET2 := Lib.hid (HRET.out q u HQN.out HUU.out)
            rw [hx] at HRET2
            rw [hx]
            clear HRET hx
            by_cases heq : u = x
            · have hbe : (u.toList == x.toList) = true := by rw [heq]; exact beq_self_eq_true _
              have hbn : (u.toList != x.toList) = false := by rw [heq]; simp
              have HY2 : Hid (∀ t, t < y + 1 → nthS S (valF m ln zn (s ++ letterN t)) = s ++ letterN t) := Lib.hid (fun t ht => by
                by_cases e : t = y
                · rw [e, HNXE.out q HQN.out, HUU.out, HXX.out, heq]
                · exact HY.out t (by omega))
              subst heq
              clear hbe hbn
              go_wp2_with fail
              all_goals (first | exact ⟨⟨y + 1, by omega, by go_num, HB8, HY2⟩, by simp [intOf]; omega⟩ | go_roundw)
            · have F := Lib.hid (HRET2.out heq)
              have hbn : (u.toList == x.toList) = false := by
                rw [beq_eq_false_iff_ne]; intro e; exact heq (bytes_eq.1 (by rw [e]; exact beq_self_eq_true _))
              go_wp2_with fail
              refine bodyPost_ret (v := .tuple #[.string u, .string x, .bool true]) ?_ rfl F.out
              simp [results, Tryz.results15, go_sem]
          · obtain rfl : y = zn.length := by omega
            have HA := Lib.hid (HALL2.out (fun _ => HY.out))
            go_wp2_with fail
            go_roundw
            case rel => exact ⟨j + 1, by omega, by go_num, HW, HA⟩
            case measure => simp [intOf]; omega
      · have HA := Lib.hid (HALL2.out (fun h => absurd (isHy_iff.1 hq) h))
        go_wp2_with fail
        go_roundw
        case rel => exact ⟨j + 1, by omega, by go_num, HW, HA⟩
        case measure => simp [intOf]; omega
    · exfalso
      obtain ⟨i, y, h1, h2, h3, h4⟩ := HEX.out S HSP.out
      have h5 : nthS S i ∈ L := (HPM.out _).2 (by rw [nthS_lt (by omega)]; exact List.getElem_mem _)
      obtain ⟨t, ht, e⟩ := List.getElem_of_mem h5
      have h6 := HALL.out t (by have := HLL.out; omega)
      rw [nthS_lt ht, e] at h6
      have h7 := h6 h2 y h3
      rw [(HVL.out S HSP.out i y h1 h2 h3).1] at h7
      exact h4 h7
end Go.Proofs.YtmgdglghjlggnaaGreat
namespace Go.Proofs.YtmgdglghjlggnaaGreat
open Go.RowKit
set_option linter.unusedVariables false
theorem and255 (n : Int) : bits .and .i64 n 255 = n % 256 := by
  have h255 : (BitVec.ofInt 64 255).toNat = 2 ^ 8 - 1 := by decide
  have key : (BitVec.ofInt 64 n &&& BitVec.ofInt 64 255).toNat = (n % ((2 ^ 64 : Nat) : Int)).toNat % 2 ^ 8 := by
    rw [BitVec.toNat_and, BitVec.toNat_ofInt, h255, Nat.and_two_pow_sub_one_eq_mod]
  show IntKind.i64.wrap ((BitVec.ofInt 64 n &&& BitVec.ofInt 64 255).toNat : Nat) = n % 256
  rw [key, IntKind.wrap_i64]
  omega
/-- a slice of bytes -/
def BytesIn (w : World) (a : Option Addr) (l : List UInt8) : Prop := CellsIn w a (l.map fun c => Value.int .u8 (c.toNat : Int))
theorem BytesIn.later {w w' : World} {a : Option Addr} {l : List UInt8} (h : BytesIn w a l) (hb : Below w.heap.size w w') : BytesIn w' a l := CellsIn.later h hb
theorem BytesIn.cell {w : World} {a : Option Addr} {l : List UInt8} (h : BytesIn w a l) {i : Nat} (hi : i < l.length) :
    ∃ b off, a = some ⟨b, off, none⟩ ∧ b < w.heap.size ∧ ∃ c : Nat, c < 256 ∧ w.cell? ⟨b, off + i, none⟩ = some (.int .u8 (c : Nat)) := by
  rcases h with h | ⟨b, off, ha, hc⟩
  · have : l = [] := by simpa using h
    subst this; simp at hi
  · have h1 := hc i (by simpa using hi)
    rw [List.getElem_map] at h1
    exact ⟨b, off, ha, World.block_lt_of_cell? w _ h1, l[i].toNat, l[i].toNat_lt, h1⟩
/-- a cursor in block B over n bytes -/
def CurAt (w : World) (B : Nat) (a : Option Addr) (n cap : Nat) : Prop := ∃ (i : Nat) (h : Int), w.heap[B]? = some (.cells #[.slice a n cap, .int .i64 (i : Nat), .int .i64 h] 77 (0, 0)) ∧ i ≤ n
theorem CurAt.lt {w : World} {B : Nat} {a : Option Addr} {n cap : Nat} (h : CurAt w B a n cap) : B < w.heap.size := by
  obtain ⟨i, h, h1, _⟩ := h
  exact (Array.getElem?_eq_some_iff.1 h1).1
theorem CurAt.later {w w' : World} {B : Nat} {a : Option Addr} {n cap : Nat} (h : CurAt w B a n cap) (hb : Below w.heap.size w w') : CurAt w' B a n cap := by
  have hl := h.lt
  obtain ⟨i, h, h1, h2⟩ := h
  exact ⟨i, h, by rw [hb.block B hl]; exact h1, h2⟩
theorem BytesIn.grown {w w' : World} {B : Nat} {a : Option Addr} {l : List UInt8} (h : BytesIn w a l) (hg : w.grownBy w' (some B)) (hB : l ≠ [] → ∀ x, a = some x → x.block ≠ B) : BytesIn w' a l := by
  rcases h with h | ⟨b, off, ha, hc⟩
  · exact .inl h
  · refine .inr ⟨b, off, ha, fun i hi => ?_⟩
    rw [World.cell?_of_block (w := w) (hg.block b (World.block_lt_of_cell? w _ (hc i hi)) (fun e => hB (fun e2 => by subst e2; simp at hi) _ ha (Option.some.inj e)))]
    exact hc i hi
/-- behind a byte's first steps -/
def CurP (w : World) (B : Nat) (a : Option Addr) (n cap i : Nat) (v : Value) (wx : World) : Prop := ∃ (x : Nat) (h2 : Int), x < 256 ∧ v = .int .i64 ((x : Nat) : Int) ∧ wx.heap[B]? = some (.cells #[.slice a n cap, .int .i64 (i : Nat), .int .i64 h2] 77 (0, 0)) ∧ w.grownBy wx (some B)
theorem CurP.mk {w : World} {B : Nat} {a : Option Addr} {n cap i : Nat} {v h2 : Int} {wx : World} (hb : wx.heap[B]? = some (.cells #[.slice a n cap, .int .i64 (i : Nat), .int .i64 h2] 77 (0, 0))) (hg : w.grownBy wx (some B)) : CurP w B a n cap i (.int .i64 (v % 256)) wx :=
  ⟨(v % 256).toNat, h2, by omega, by rw [Int.toNat_of_nonneg (by omega)], hb, hg⟩
theorem cellsCur {w : World} {B : Nat} {x y z : Value} {T : TypeId} (h : w.heap[B]? = some (.cells #[x, y, z] T (0, 0))) : w.cell? ⟨B, 0, none⟩ = some x ∧ w.cell? ⟨B, 1, none⟩ = some y ∧ w.cell? ⟨B, 2, none⟩ = some z ∧ (∀ i, w.frozen? ⟨B, i, none⟩ = false) := by
  refine ⟨by rw [cell_of_row _ _ 0 _ _ _ h]; rfl, by rw [cell_of_row _ _ 1 _ _ _ h]; rfl, by rw [cell_of_row _ _ 2 _ _ _ h]; rfl, fun i => by simp [World.frozen?, h]⟩
theorem setCur2 {w : World} {B : Nat} {x y z : Value} {T : TypeId} (h : w.heap[B]? = some (.cells #[x, y, z] T (0, 0))) (v : Value) : (w.setCell ⟨B, 2, none⟩ v).heap[B]? = some (.cells #[x, y, v] T (0, 0)) := by
  unfold World.setCell
  rw [Array.getElem?_modify, if_pos rfl, h]
  rfl
theorem setCur1 {w : World} {B : Nat} {x y z : Value} {T : TypeId} (h : w.heap[B]? = some (.cells #[x, y, z] T (0, 0))) (v : Value) : (w.setCell ⟨B, 1, none⟩ v).heap[B]? = some (.cells #[x, v, z] T (0, 0)) := by
  unfold World.setCell
  rw [Array.getElem?_modify, if_pos rfl, h]
  rfl
theorem setGrown (w : World) (B o : Nat) (v : Value) : w.grownBy (w.setCell ⟨B, o, none⟩ v) (some B) := by
  have hszc : (w.setCell ⟨B, o, none⟩ v).heap.size = w.heap.size := by simp
  exact ⟨rfl, rfl, rfl, by rw [hszc]; exact Nat.le_refl _, fun k hk hne => by
    unfold World.setCell
    rw [Array.getElem?_modify, if_neg (fun e : B = k => hne (by rw [e]))]⟩
theorem grown_tr {w w1 w2 : World} {r : Option Nat} (h : w.grownBy w1 r) (h' : w1.grownBy w2 r) : w.grownBy w2 r :=
  ⟨h'.os.trans h.os, h'.tape.trans h.tape, h'.output.trans h.output, Nat.le_trans h.size h'.size, fun k hk hne => (h'.block k (Nat.lt_of_lt_of_le hk h.size) hne).trans (h.block k hk hne)⟩
theorem grown_drewN {w w1 : World} {r : Option Nat} (h : w.grownBy w1 r) (n : Nat) : w.grownBy (w1.drewN n) r := ⟨h.os, h.tape, h.output, h.size, h.block⟩
/-- what a byte's call leaves -/
def RetByte (B : Nat) (a : Option Addr) (n cap : Nat) (w : World) (e : Ending) (w' : World) : Prop := ∃ x : Nat, x < 256 ∧ e = .returned (.int .i64 ((x : Nat) : Int)) ∧ CurAt w' B a n cap ∧ w.grownBy w' (some B)
set_option maxRecDepth 20000 in
set_option maxHeartbeats 2000000 in
theorem l01Byte_any (B : Nat) (a : Option Addr) (l : List UInt8) (cap : Nat) (w : World) (hc : CurAt w B a l.length cap) (hl : BytesIn w a l) (hB : l ≠ [] → ∀ x, a = some x → x.block ≠ B) (hlen : l.length ≤ 2 ^ 40) :
    Calls Tryz.prog 27 #[.pointer (some ⟨B, 0, none⟩)] w (RetByte B a l.length cap w) := by
  obtain ⟨i, h, hblk, hi⟩ := hc
  have h255 := and255
  obtain ⟨c0, c1, c2, cf⟩ := cellsCur hblk
  have cf2 := cf 2
  have HB2 := Lib.hid (fun v => setCur2 hblk v)
  have g0 : ∀ v, (w.setCell ⟨B, 2, none⟩ v).cell? ⟨B, 2, none⟩ = some v := fun v => (cellsCur (HB2.out v)).2.2.1
  clear cf
  have HL := Lib.hid hl
  have HBB := Lib.hid hB
  clear hl hB
  go_enter Tryz.func27, Tryz.ntmps27
  go_upto_region 2 with fail
  go_cut [3] (fun v wx => CurP w B a l.length cap i v wx)
  case first =>
    go_quiet (fail)
    go_wp2_with fail
    go_meet
    exact CurP.mk (by simpa using HB2.out _) (grown_drewN (setGrown _ _ _ _) _)
  case rest =>
    obtain ⟨x, h2, hx, rfl, hblk2, hg2⟩ := hcut
    have HG2 := Lib.hid hg2
    have HL2 := Lib.hid (HL.out.grown hg2 HBB.out)
    have HK2 := Lib.hid hblk2
    clear c0 c1 c2 cf2 HB2 g0 hblk hg2 HL
    obtain ⟨c0, c1, c2, cf⟩ := cellsCur hblk2
    have cf1 := cf 1
    clear cf hblk2
    by_cases hlt : i < l.length
    · obtain ⟨b, off, rfl, hb, c, hc, hcell⟩ := HL2.out.cell hlt
      have hil : (i : Int) < (l.length : Int) := by omega
      have hi0 : (0 : Int) ≤ (i : Int) := by omega
      go_wp2_with fail
      go_quiet (fail)
      go_upto_region 4 with fail
      go_cut [3] (fun v wx => CurP w B (some ⟨b, off, none⟩) l.length cap i v wx)
      case first =>
        go_quiet (fail)
        go_wp2_with fail
        go_meet
        exact CurP.mk (by simpa using HK2.out) (by first | exact grown_drewN HG2.out _ | exact grown_drewN (grown_drewN HG2.out _) _)
      case rest =>
        obtain ⟨x3, h3, hx3, rfl, hblk3, hg3⟩ := hcut
        have HG3 := Lib.hid hg3
        have HB3 := Lib.hid (fun v => setCur1 hblk3 v)
        clear c0 c1 c2 cf1 HK2 hcell hg3
        obtain ⟨c0, c1, c2, cf⟩ := cellsCur hblk3
        have cf1 := cf 1
        clear cf hblk3
        go_wp2_with fail
        go_ret
        exact ⟨x3, hx3, rfl, ⟨i + 1, h3, by rw [HB3.out]; simp, by omega⟩, grown_tr HG3.out (setGrown _ _ _ _)⟩
    · have hil : ¬ (i : Int) < (l.length : Int) := by omega
      go_wp2_with fail
      go_quiet (fail)
      go_wp2_with fail
      go_ret
      exact ⟨x, hx, rfl, ⟨i, h2, HK2.out, hi⟩, grown_drewN HG2.out _⟩
/-- a new cursor -/
def RetCur (a : Option Addr) (n cap : Nat) (w : World) (e : Ending) (w' : World) : Prop := e = .returned (.pointer (some ⟨w.heap.size, 0, none⟩)) ∧ CurAt w' w.heap.size a n cap ∧ Below w.heap.size w w'
theorem RetCur.mk {a : Option Addr} {n cap : Nat} {w : World} (h : Int) : RetCur a n cap w (.returned (.pointer (some ⟨w.heap.size, 0, none⟩))) (w.alloc (.cells #[.slice a n cap, .int .i64 0, .int .i64 h] 77)) :=
  ⟨rfl, ⟨0, h, by unfold World.alloc; simp, Nat.zero_le _⟩, (Below.refl _ _).alloc (Nat.le_refl _) _⟩
set_option maxRecDepth 20000 in
set_option maxHeartbeats 2000000 in
theorem l01New_any (a : Option Addr) (l : List UInt8) (cap : Nat) (w : World) (hl : BytesIn w a l) (hlen : l.length ≤ 2 ^ 40) :
    Calls Tryz.prog 50 #[.slice a l.length cap] w (RetCur a l.length cap w) := by
  have HL := Lib.hid hl
  clear hl
  go_enter Tryz.func50, Tryz.ntmps50
  go_wp2_with fail
  go_loop [3, 4] (fun h i => ∃ (j : Nat) (z : Int), j ≤ l.length ∧ i = .int .i64 (j : Nat) ∧ h = .int .i64 z) (fun _ i => l.length - (intOf i).toNat)
  case atStart => exact ⟨0, _, Nat.zero_le _, rfl, rfl⟩
  case round =>
    obtain ⟨j, z, hj, rfl, rfl⟩ := hrel
    by_cases hlt : j < l.length
    · obtain ⟨b, off, rfl, hb, c, hc, hcell⟩ := HL.out.cell hlt
      by_cases h4 : j < 4000
      · go_wp2_with fail
        go_round
        case rel => exact ⟨j + 1, _, by omega, by go_num, rfl⟩
        case measure => simp [intOf]; omega
      · go_wp2_with fail
        go_ret
        exact RetCur.mk _
    · go_wp2_with fail
      go_ret
      exact RetCur.mk _
theorem curNe {w : World} {a : Option Addr} {l : List UInt8} (hl : BytesIn w a l) (hne : l ≠ []) : ∀ x, a = some x → x.block < w.heap.size := by
  rintro x rfl
  obtain ⟨b, off, ha, hb, _⟩ := hl.cell (i := 0) (by cases l with | nil => exact absurd rfl hne | cons => simp)
  obtain rfl := Option.some.inj ha
  exact hb
/-- what a cursor is read with -/
structure CurOk (w : World) (B : Nat) (a : Option Addr) (l : List UInt8) (cap : Nat) : Prop where
  at_ : CurAt w B a l.length cap
  bytes : BytesIn w a l
  ne : l ≠ [] → ∀ x, a = some x → x.block ≠ B
  len : l.length ≤ 2 ^ 40
theorem CurOk.later {w w' : World} {B : Nat} {a : Option Addr} {l : List UInt8} {cap : Nat} (h : CurOk w B a l cap) (hb : Below w.heap.size w w') : CurOk w' B a l cap := ⟨h.at_.later hb, h.bytes.later hb, h.ne, h.len⟩
theorem CurOk.next {w w' : World} {B : Nat} {a : Option Addr} {l : List UInt8} {cap : Nat} (h : CurOk w B a l cap) (hc : CurAt w' B a l.length cap) (hg : w.grownBy w' (some B)) : CurOk w' B a l cap := ⟨hc, h.bytes.grown hg h.ne, h.ne, h.len⟩
theorem byte_cur {w : World} {B : Nat} {a : Option Addr} {l : List UInt8} {cap : Nat} (h : CurOk w B a l cap) :
    Calls Tryz.prog 27 #[.pointer (some ⟨B, 0, none⟩)] w fun e w' => ∃ x : Nat, x < 256 ∧ e = .returned (.int .i64 ((x : Nat) : Int)) ∧ CurOk w' B a l cap ∧ w.grownBy w' (some B) :=
  (l01Byte_any B a l cap w h.at_ h.bytes h.ne h.len).mono fun _ _ ⟨x, hx, he, hc, hg⟩ => ⟨x, hx, he, h.next hc hg, hg⟩
theorem below_curs {w0 w w' : World} {B : Nat} (h : Below w0.heap.size w0 w) (hg : w.grownBy w' (some B)) (hB : w0.heap.size ≤ B) : Below w0.heap.size w0 w' :=
  h.grown hg h.size (fun k hk => by have := Option.some.inj hk; omega)
theorem RetCur.ok {a : Option Addr} {l : List UInt8} {cap : Nat} {w w' : World} {e : Ending} (h : RetCur a l.length cap w e w') (hl : BytesIn w a l) (hlen : l.length ≤ 2 ^ 40) : CurOk w' w.heap.size a l cap :=
  ⟨h.2.1, hl.later h.2.2, fun hne x hx => Nat.ne_of_lt (curNe hl hne x hx), hlen⟩
set_option maxRecDepth 20000 in
set_option maxHeartbeats 2000000 in
theorem l31New_any (a : Option Addr) (l : List UInt8) (cap k : Nat) (w : World) (hl : BytesIn w a l) (hlen : l.length ≤ 2 ^ 40) (hk : k ≤ 1000) :
    Calls Tryz.prog 22 #[.slice a l.length cap, .int .i64 (k : Nat)] w fun e w' => e = .returned (.pointer (some ⟨w.heap.size, 0, none⟩)) ∧ CurOk w' w.heap.size a l cap ∧ Below w.heap.size w w' := by
  have HN := Lib.hid (l01New_any a l cap w hl hlen)
  have HL := Lib.hid hl
  clear hl
  go_enter Tryz.func22, Tryz.ntmps22
  go_wp2_with fail
  refine HN.out.mono ?_
  rintro e w2 hr
  obtain ⟨rfl, _⟩ := id hr
  have HC := Lib.hid (hr.ok HL.out hlen)
  have HB := Lib.hid hr.2.2
  clear hr HN
  go_wp2_with fail
  go_loopw [6] (fun i wr => ∃ j : Nat, j ≤ k ∧ i = .int .i64 (j : Nat) ∧ CurOk wr w.heap.size a l cap ∧ Below w.heap.size w wr) (fun i _ => k - (intOf i).toNat)
  case atStart => exact ⟨0, Nat.zero_le _, rfl, HC.out, HB.out⟩
  case round =>
    clear HC HB
    obtain ⟨j, hj, rfl, hc, hb⟩ := hrel
    have HC := Lib.hid hc
    have HB := Lib.hid hb
    clear hc hb
    by_cases hlt : j < k
    · go_wp2_with fail
      refine (byte_cur HC.out).mono ?_
      rintro e w3 ⟨x, hx, rfl, hc3, hg3⟩
      have HC3 := Lib.hid hc3
      have HB3 := Lib.hid (below_curs HB.out hg3 (Nat.le_refl _))
      clear hc3 hg3
      go_wp2_with fail
      go_roundw
      case rel => exact ⟨j + 1, by omega, by go_num, HC3.out, HB3.out⟩
      case measure => simp [intOf]; omega
    · go_wp2_with fail
      go_ret
      exact ⟨rfl, HC.out, HB.out⟩
set_option maxRecDepth 20000 in
set_option maxHeartbeats 2000000 in
theorem makeNum_any (a : Option Addr) (l : List UInt8) (cap k : Nat) (w : World) (hl : BytesIn w a l) (hlen : l.length ≤ 2 ^ 40) (hk : k ≤ 1000) :
    Calls Tryz.prog 8 #[.slice a l.length cap, .int .i64 (k : Nat)] w fun e w' => ∃ x : Nat, x < 65536 ∧ e = .returned (.int .i64 ((x : Nat) : Int)) ∧ Below w.heap.size w w' := by
  have HN := Lib.hid (l31New_any a l cap k w hl hlen hk)
  clear hl
  go_enter Tryz.func8, Tryz.ntmps8
  go_wp2_with fail
  refine HN.out.mono ?_
  rintro e w2 ⟨rfl, hc, hb⟩
  have HC := Lib.hid hc
  have HB := Lib.hid hb
  clear hc hb HN
  go_wp2_with fail
  refine (byte_cur HC.out).mono ?_
  rintro e w3 ⟨x, hx, rfl, hc3, hg3⟩
  have HC3 := Lib.hid hc3
  have HB3 := Lib.hid (below_curs HB.out hg3 (Nat.le_refl _))
  clear hc3 hg3
  go_wp2_with fail
  refine (byte_cur HC3.out).mono ?_
  rintro e w4 ⟨y, hy, rfl, hc4, hg4⟩
  have HB4 := Lib.hid (below_curs HB3.out hg4 (Nat.le_refl _))
  clear hc4 hg4
  go_wp2_with fail
  go_ret
  exact ⟨x * 256 + y, by omega, by go_num, HB4.out⟩
end Go.Proofs.YtmgdglghjlggnaaGreat
namespace Go.Proofs.YtmgdglghjlggnaaGreat
open Go.RowKit
set_option linter.unusedVariables false
theorem grown_alloc {w w1 : World} {r : Option Nat} (h : w.grownBy w1 r) (o : Obj) : w.grownBy (w1.alloc o) r := by
  have e := Below.heap_alloc w1 o
  exact ⟨h.os, h.tape, h.output, Nat.le_trans h.size (by simp), fun k hk hne => (e k (Nat.lt_of_lt_of_le hk h.size)).trans (h.block k hk hne)⟩
theorem CurOk.alloc {w : World} {B : Nat} {a : Option Addr} {l : List UInt8} {cap : Nat} (h : CurOk w B a l cap) (o : Obj) : CurOk (w.alloc o) B a l cap := h.later ((Below.refl _ _).alloc (Nat.le_refl _) _)
theorem CurOk.lt {w : World} {B : Nat} {a : Option Addr} {l : List UInt8} {cap : Nat} (h : CurOk w B a l cap) : B < w.heap.size := h.at_.lt
set_option maxHeartbeats 1000000 in
theorem l01Below_any (B n : Nat) (a : Option Addr) (l : List UInt8) (cap : Nat) (w : World) (h : CurOk w B a l cap) (hn : 1 ≤ n) (hn2 : n ≤ 256) :
    Calls Tryz.prog 23 #[.pointer (some ⟨B, 0, none⟩), .int .i64 (n : Nat)] w fun e w' => ∃ x : Nat, x < n ∧ e = .returned (.int .i64 ((x : Nat) : Int)) ∧ CurOk w' B a l cap ∧ w.grownBy w' (some B) := by
  have HB := Lib.hid (byte_cur h)
  clear h
  have h0 : ¬ (n : Int) ≤ 0 := by omega
  have h2 : (n : Int) ≤ 256 := by omega
  have hnz : ((n : Int) == 0) = false := by rw [beq_eq_false_iff_ne]; omega
  have hnz2 : ¬ (n : Int) = 0 := by omega
  go_enter Tryz.func23, Tryz.ntmps23
  go_wp2_with fail
  refine HB.out.mono ?_
  rintro e w2 ⟨x, hx, rfl, hc2, hg2⟩
  have HC := Lib.hid hc2
  have HG := Lib.hid hg2
  clear hc2 hg2 HB
  go_wp2_with fail
  go_ret
  exact ⟨x % n, Nat.mod_lt _ (by omega), ret_int (by first | rfl | simp), HC.out, HG.out⟩
theorem StrsIn.grownB {w w' : World} {B : Nat} {a : Option Addr} {l : List ByteArray} (h : StrsIn w a l) (hg : w.grownBy w' (some B)) (hne : ∀ x, a = some x → x.block ≠ B) : StrsIn w' a l := by
  rcases h with h | ⟨b, off, ha, hc⟩
  · exact .inl h
  · refine .inr ⟨b, off, ha, fun i hi => ?_⟩
    rw [World.cell?_of_block (w := w) (hg.block b (World.block_lt_of_cell? w _ (hc i hi)) (fun e => hne _ ha (Option.some.inj e)))]
    exact hc i hi
set_option maxHeartbeats 1000000 in
theorem l01Str_any (B : Nat) (a : Option Addr) (l : List UInt8) (cap : Nat) (ls : List ByteArray) (a2 : Option Addr) (cap2 : Nat) (w : World) (h : CurOk w B a l cap) (hl : StrsIn w a2 ls) (hne : ∀ x, a2 = some x → x.block ≠ B) (h1 : 1 ≤ ls.length) (h2 : ls.length ≤ 256) :
    Calls Tryz.prog 48 #[.pointer (some ⟨B, 0, none⟩), .slice a2 ls.length cap2] w fun e w' => ∃ i : Nat, i < ls.length ∧ e = .returned (.string (nthS ls i)) ∧ CurOk w' B a l cap ∧ w.grownBy w' (some B) := by
  have HB := Lib.hid (l01Below_any B ls.length a l cap w h h1 h2)
  have HL := Lib.hid hl
  have HN := Lib.hid hne
  clear h hl hne
  go_enter Tryz.func48, Tryz.ntmps48
  go_wp2_with fail
  refine HB.out.mono ?_
  rintro e w2 ⟨x, hx, rfl, hc2, hg2⟩
  obtain ⟨b, off, rfl, hb, hcell⟩ := (HL.out.grownB hg2 HN.out).cell hx
  have c1 := hcell x hx
  have HC := Lib.hid hc2
  have HG := Lib.hid hg2
  clear hc2 hg2 HB hcell
  go_wp2_with fail
  go_ret
  exact ⟨x, hx, rfl, HC.out, HG.out⟩
theorem StrsIn.lit (w : World) (ls : List ByteArray) : StrsIn (w.alloc (.cells (strVals ls).toArray 9)) (some ⟨w.heap.size, 0, none⟩) ls := by
  refine .inr ⟨_, _, rfl, fun i hi => ?_⟩
  rw [Nat.zero_add, World.cell?_alloc_new]
  have h2 : i < (strVals ls).length := by simpa [strVals] using hi
  show (strVals ls).toArray[i]? = some _
  rw [List.getElem?_toArray, List.getElem?_eq_getElem h2]
  rfl
/-- a literal row of strings is drawn from -/
theorem strLit_any (B : Nat) (a : Option Addr) (l : List UInt8) (cap : Nat) (ls : List ByteArray) (w : World) (h : CurOk w B a l cap) (h1 : 1 ≤ ls.length) (h2 : ls.length ≤ 256) :
    Calls Tryz.prog 48 #[.pointer (some ⟨B, 0, none⟩), .slice (some ⟨w.heap.size, 0, none⟩) ls.length ls.length] (w.alloc (.cells (strVals ls).toArray 9)) fun e w' => ∃ i : Nat, i < ls.length ∧ e = .returned (.string (nthS ls i)) ∧ CurOk w' B a l cap ∧ w.grownBy w' (some B) :=
  (l01Str_any B a l cap ls (some ⟨w.heap.size, 0, none⟩) ls.length _ (h.alloc _) (StrsIn.lit w ls) (fun x hx => by
    obtain rfl := Option.some.inj hx
    have := h.lt
    show w.heap.size ≠ B; omega) h1 h2).mono fun _ _ ⟨i, hi, he, hc, hg⟩ => ⟨i, hi, he, hc, grown_tr (grown_alloc ⟨rfl, rfl, rfl, Nat.le_refl _, fun _ _ _ => rfl⟩ _) hg⟩
end Go.Proofs.YtmgdglghjlggnaaGreat
namespace Go.Proofs.YtmgdglghjlggnaaGreat
open Go.RowKit
set_option linter.unusedVariables false
/-- a word with each letter behind it -/
def exts (v : ByteArray) (x : Nat) : List ByteArray := (List.range x).map fun x => v ++ letterN x
def longer (k : Nat) (l : List ByteArray) : List ByteArray := l.flatMap fun v => exts v k
/-- the words of a length -/
def lev (k : Nat) : Nat → List ByteArray
  | 0 => [⟨#[]⟩]
  | j + 1 => longer k (lev k j)
def up (k : Nat) : Nat → List ByteArray
  | 0 => lev k 0
  | j + 1 => up k j ++ lev k (j + 1)
end Go.Proofs.YtmgdglghjlggnaaGreat
namespace Go.Proofs.YtmgdglghjlggnaaGreat
open Go.RowKit
set_option linter.unusedVariables false
/-- a link: a step, or a step back, to a word of at most n letters -/
def LinkL (R : List RulD) (n : Nat) (u v : List UInt8) : Prop := v.length ≤ n ∧ (Stp (SR R) u v ∨ Stp (SR R) v u)
inductive ReachL (R : List RulD) (n : Nat) (u : List UInt8) : List UInt8 → Prop
  | refl : ReachL R n u u
  | step {v x : List UInt8} : ReachL R n u v → LinkL R n v x → ReachL R n u x
theorem ReachL.trans {R : List RulD} {n : Nat} {u v x : List UInt8} (a : ReachL R n u v) (b : ReachL R n v x) : ReachL R n u x := by
  induction b with
  | refl => exact a
  | step _ l ih => exact .step ih l
theorem ReachL.len {R : List RulD} {n : Nat} {u v : List UInt8} (hu : u.length ≤ n) (h : ReachL R n u v) : v.length ≤ n := by
  cases h with
  | refl => exact hu
  | step _ l => exact l.1
theorem ReachL.symm {R : List RulD} {n : Nat} {u v : List UInt8} (hu : u.length ≤ n) (h : ReachL R n u v) : ReachL R n v u := by
  induction h with
  | refl => exact .refl
  | step r l ih => exact (ReachL.step .refl ⟨r.len hu, l.2.symm⟩).trans ih
theorem ReachL.red {R : List RulD} {n : Nat} (hd : Dwn (SR R)) {u v : List UInt8} (h : Red (SR R) u v) (hu : u.length ≤ n) : ReachL R n u v := by
  induction h with
  | refl => exact .refl
  | step s _ ih =>
    have h1 := wt_len (hd.stp s)
    exact (ReachL.step .refl ⟨by omega, .inl s⟩).trans (ih (by omega))
section
variable {k : Int} {R : List RulD} {n : Nat}
end
end Go.Proofs.YtmgdglghjlggnaaGreat
namespace Go.Proofs.YtmgdglghjlggnaaGreat
open Go.RowKit
set_option linter.unusedVariables false
def sumZ (l : List Int) (j : Nat) : Int := (l.take j).sum
theorem sumZ_succ {l : List Int} {j : Nat} (h : j < l.length) : sumZ l (j + 1) = sumZ l j + nthZ l j := by
  unfold sumZ
  rw [List.take_add_one, List.getElem?_eq_getElem h, nthZ_lt h, List.sum_append]
  simp
set_option maxHeartbeats 1000000 in
theorem lawSum_any (l : List Int) (a : Option Addr) (cap : Nat) (w : World) (hl : IntsIn w a l) (hlen : l.length ≤ 1000) (hs : ∀ j, j ≤ l.length → 0 ≤ sumZ l j ∧ sumZ l j ≤ 1000000000) :
    Calls Tryz.prog 10 #[.slice a l.length cap] w fun e w' => e = .returned (.int .i64 l.sum) ∧ w = w' := by
  have HL := Lib.hid hl
  have HS := Lib.hid hs
  clear hl hs
  go_enter Tryz.func10, Tryz.ntmps10
  go_wp2_with fail
  go_loopw [3, 8] (fun v c wr => ∃ j : Nat, j ≤ l.length ∧ c = .int .i64 (j : Nat) ∧ v = .int .i64 (sumZ l j) ∧ wr = w) (fun _ c _ => l.length - (intOf c).toNat)
  case atStart => exact ⟨0, Nat.zero_le _, rfl, rfl, rfl⟩
  case round =>
    obtain ⟨j, hj, rfl, rfl, hw⟩ := hrel
    rw [hw]
    clear hw
    by_cases hlt : j < l.length
    · obtain ⟨b, off, rfl, hb, hc⟩ := HL.out.cell hlt
      have c0 := hc j hlt
      have hjl : (j : Int) < (l.length : Int) := by omega
      have HE := Lib.hid (sumZ_succ hlt)
      obtain ⟨h1, h2⟩ := HS.out j hj
      obtain ⟨h3, h4⟩ := HS.out (j + 1) hlt
      rw [HE.out] at h3 h4
      generalize nthZ l j = z at *
      generalize sumZ l j = y at *
      clear hc
      go_wp2_with fail
      go_roundw
      case rel => exact ⟨j + 1, by omega, by go_num, by rw [HE.out], trivial⟩
      case measure => simp [intOf]; omega
    · obtain rfl : j = l.length := by omega
      have HE : Hid (sumZ l l.length = l.sum) := Lib.hid (by unfold sumZ; rw [List.take_length])
      rw [HE.out]
      go_wp2_with fail
      go_ret
      exact ⟨rfl, rfl⟩
end Go.Proofs.YtmgdglghjlggnaaGreat
namespace Go.Proofs.YtmgdglghjlggnaaGreat
open Go.RowKit
set_option linter.unusedVariables false
def idemB (m : Nat) (ln : List Nat) (i : Nat) : Bool := decide (tm m ln i i = i)
def idemF (n : Int) (l : List Int) : List Int := thoseL n l (idemB n.toNat (l.map Int.toNat))
end Go.Proofs.YtmgdglghjlggnaaGreat
