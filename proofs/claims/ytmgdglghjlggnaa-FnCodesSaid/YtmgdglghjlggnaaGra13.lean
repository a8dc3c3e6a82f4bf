/-
  'FnCodes' holds: for every argument the law answers true and leaves its argument as it was. No condition.
-/
import Derived.Test.YtmgdglghjlggnaaGra12
import Derived.Test.YtmgdglghjlggnaaGra04
import Derived.Test.YtmgdglghjlggnaaGra05
namespace Go.Proofs.Ytmgdglghjlggnaa.fnCodes
open Go.RowKit
set_option linter.unusedVariables false
theorem bool_iff {b c : Bool} {P : Prop} (h : b = true ↔ P) (h' : c = true ↔ P) : b = c := by
  have e := h.trans h'.symm
  cases b <;> cases c <;> simp at e ⊢
/-- a truth value that tells a statement -/
def IsB (b : Bool) (P : Prop) : Prop := b = true ↔ P
theorem IsB.iff {b : Bool} {P : Prop} (h : IsB b P) : b = true ↔ P := h
theorem rd_some {L : List Bw} {v : Bw} {X : List (List Nat)} (h : RdL L v X) (h2 : 2 ≤ X.length) : ∃ xs, SqL L v xs := by
  rcases X with _ | ⟨x, X⟩
  · simp at h2
  · exact ⟨x, (h.2 x).1 (by simp)⟩
theorem rdn_len {L : List Bw} {v : Bw} {X : List (List Nat)} {c : Nat} (h : RdL L v X) (hc : RdN L v c) : c = X.length := by
  obtain ⟨Y, hY, rfl⟩ := hc
  exact hY.len h
theorem rdn_pos {L : List Bw} {v : Bw} {xs : List Nat} {c : Nat} (h : SqL L v xs) (hc : RdN L v c) : 1 ≤ c := by
  obtain ⟨Y, hY, rfl⟩ := hc
  have := (hY.2 xs).2 h
  exact List.length_pos_of_mem this
theorem rdn_one {E : List ByteArray} (hND : E.Nodup) (hu : udP E) {v : Bw} {c : Nat} (hc : RdN (bwL E) v c) : c ≤ 1 := by
  obtain ⟨Y, hY, rfl⟩ := hc
  exact ud_one hu.2 (bwL_nodup hND) hY
theorem nthZ_nat {rs : List Nat} {j : Nat} (h : j < rs.length) : nthZ (rs.map Int.ofNat) j = ((rs.getD j 0 : Nat) : Int) := by
  unfold nthZ; simp [List.getD_eq_getElem?_getD, h]
theorem part_succ {L : List Bw} {rs : List Nat} {j : Nat} (h : j < rs.length) : ((rs.take (j + 1)).map fun i => L.getD i []).flatten = ((rs.take j).map fun i => L.getD i []).flatten ++ L.getD (rs.getD j 0) [] := by
  rw [List.take_succ_eq_append_getElem h, List.map_append, List.flatten_append]
  simp [List.getD_eq_getElem?_getD, h]
theorem two_not {E : List ByteArray} (hND : E.Nodup) {v : Bw} {X : List (List Nat)} (h : RdL (bwL E) v X) (h2 : 2 ≤ X.length) : ¬ udP E := fun hu => by
  have := ud_one hu.2 (bwL_nodup hND) h
  omega
set_option maxRecDepth 100000 in
set_option maxHeartbeats 8000000 in
theorem walkSmall (a : Option Addr) (l : List UInt8) (cap : Nat) (w : World) (hl : BytesIn w a l) (hlen : l.length ≤ 1048576) :
    Calls Try.prog 3 #[.slice a l.length cap] w fun e w' => e = .returned (.bool true) ∧ Below w.heap.size w w' := by
  have hq0 : ¬ (1048576 : Int) < (l.length : Int) := by omega
  have hl40 : l.length ≤ 2 ^ 40 := by omega
  have HBY : Hid (∀ W, Below w.heap.size w W → BytesIn W a l) := Lib.hid (fun W h => hl.later h)
  have HM : Hid (Calls Try.prog 4 #[.slice a l.length cap, .int .i64 0] w (RetMk w)) := Lib.hid (makeList_any a l cap 0 w hl (by omega) (by omega))
  have HN : Hid (∀ k W, k ≤ 1000 → Below w.heap.size w W → Calls Try.prog 5 #[.slice a l.length cap, .int .i64 (k : Nat)] W fun e w' => ∃ x : Nat, x < 65536 ∧ e = .returned (.int .i64 ((x : Nat) : Int)) ∧ Below W.heap.size W w') := Lib.hid (fun k W hk h => makeNum_any a l cap k W (hl.later h) hl40 hk)
  clear hl
  go_enter Try.func3, Try.ntmps3
  go_wp2_with fail
  refine HM.out.mono ?_
  rintro e w1 ⟨E, aE, cE, hLP, hAB, hND, hcE, rfl, hEI, hb1⟩
  have HLP := Lib.hid hLP
  have HAB := Lib.hid hAB
  have HND := Lib.hid hND
  have HEI := Lib.hid hEI
  have HB1 := Lib.hid hb1
  have hl8 := hLP.1.2
  have hl1 := hLP.1.1
  clear hLP hAB hND hEI hb1 HM
  go_wp2_with fail
  refine (HN.out 40 _ (by omega) HB1.out).mono ?_
  rintro e w2 ⟨x, hx, rfl, hb2⟩
  have hx4 : (x : Int) % 4 = ((x % 4 : Nat) : Int) := by omega
  obtain ⟨k0, hk0⟩ : ∃ k, x % 4 = k := ⟨_, rfl⟩
  have hk03 : k0 ≤ 3 := by omega
  rw [hk0] at hx4
  have HB2 := Lib.hid (Below.now HB1.out hb2)
  have HE2 := Lib.hid (HEI.out.later hb2)
  clear hb2 hx hk0
  go_wp2_with fail
  rw [hx4]
  go_loopw [4, 5] (fun vs vk wr => ∃ (k : Nat) (s : ByteArray) (r : List Nat), k ≤ k0 ∧ vk = .int .i64 (k : Nat) ∧ vs = .string s ∧ SqL (bwL E) s.data.toList r ∧ s.size + 5 * k ≤ 15 ∧ Hid (StrsIn wr aE E) ∧ Hid (Below w.heap.size w wr)) (fun _ vk _ => (intOf vk).toNat)
  case atStart => exact ⟨k0, ⟨#[]⟩, [], Nat.le_refl _, rfl, rfl, ⟨by simp, rfl⟩, by show 0 + _ ≤ _; omega, HE2, HB2⟩
  case round =>
    clear HE2 HB2 HEI HB1 hx4
    obtain ⟨k, s, r, hk, rfl, rfl, hsq, hsz, HE, HB⟩ := hrel
    by_cases hkz : 0 < k
    · have hki : (0 : Int) < (k : Int) := by omega
      obtain ⟨q, hq⟩ : ∃ q, 42 + k = q := ⟨_, rfl⟩
      have hqi : (42 : Int) + (k : Int) = (q : Int) := by omega
      have hwq : IntKind.i64.wrap (q : Int) = (q : Int) := IntWalk.i64_in _ ⟨by omega, by omega⟩
      have HNQ := Lib.hid (HN.out q wr (by omega) HB.out)
      have HSQ := Lib.hid hsq
      clear hsq hq
      go_wp2_with fail
      refine HNQ.out.mono ?_
      rintro e w3 ⟨x, hx, rfl, hb3⟩
      have hl0 : ((E.length : Int) == 0) = false := by rw [beq_eq_false_iff_ne]; omega
      have hli : (0 : Int) < (E.length : Int) := by omega
      have hxe : (x : Int) % (E.length : Int) = ((x % E.length : Nat) : Int) := by omega
      have hxl : x % E.length < E.length := Nat.mod_lt _ (by omega)
      have hxt : Int.tmod (x : Int) (E.length : Int) = ((x % E.length : Nat) : Int) := by rw [Int.tmod_eq_emod_of_nonneg (by omega)]; exact hxe
      obtain ⟨i, hi⟩ : ∃ i, x % E.length = i := ⟨_, rfl⟩
      rw [hi] at hxe hxl hxt
      have HE3 := Lib.hid (HE.out.later hb3)
      have HB3 := Lib.hid (Below.now HB.out hb3)
      obtain ⟨bl, off, rfl, _, hc⟩ := HE3.out.cell hxl
      have hci := hc i hxl
      have hxli : (i : Int) < (E.length : Int) := by omega
      have hab := HAB.out _ (nthS_mem hxl)
      clear hc hb3 hi hx
      have hes : ¬ 9223372036854775807 < s.size + (nthS E i).size := by have := hab.2.2; omega
      have HS3 : Hid (SqL (bwL E) (s ++ nthS E i).data.toList (r ++ [i])) := Lib.hid (by
        have h := SqL.snoc (i := i) HSQ.out (by unfold bwL; simpa using hxl)
        rw [show (bwL E).getD i [] = (nthS E i).data.toList by unfold bwL; simp [List.getD_eq_getElem?_getD, nthS_lt hxl, hxl]] at h
        rw [cat_list]; exact h)
      have hsz3 : (s ++ nthS E i).size + 5 * (k - 1) ≤ 15 := by rw [ByteArray.size_append]; have := hab.2.2; omega
      clear hab
      go_wp2_with fail
      go_roundw
      case rel => exact ⟨k - 1, _, _, by omega, by go_num, rfl, HS3.out, hsz3, HE3, HB3⟩
      case measure => simp [intOf]; omega
    · obtain rfl : k = 0 := by omega
      have HSQ := Lib.hid hsq
      have hs15 : s.size ≤ 15 := by omega
      have HWO := Lib.hid (sq_ok HAB.out hsq (by omega))
      have hsz : ∀ j, j < E.length → (nthS E j).size ≤ maxLen := fun j hj => by have := (HLP.out.2 j hj).2.1.2; unfold maxLen; omega
      have HIC := Lib.hid (fun W (h : StrsIn W aE E) => implIsCode_ud E aE cE W h (by omega) hcE hsz)
      have HLO : Hid (∀ W, StrsIn W aE E → Calls Try.prog 7 #[.slice aE E.length cE] W fun e w' => e = .returned (.bool true) ∧ Below W.heap.size W w') := Lib.hid (fun W h => (implListOk_any E aE cE W h (by omega) hcE hsz).mono fun e w' ⟨b, hb, he, hw⟩ => ⟨by rw [he, hb.2 HLP.out], hw⟩)
      have HPC := Lib.hid (fun W (h : StrsIn W aE E) => implIsPrefixCode_any E aE cE W h (by omega) hcE hsz)
      have HSC := Lib.hid (fun W (h : StrsIn W aE E) => implIsSuffixCode_any E aE cE W h (by omega) hcE hsz)
      have HML := Lib.hid (fun W (h : StrsIn W aE E) => implMirrorList_any E aE cE W h HLP.out)
      have HMW := Lib.hid (fun W (h : Below wr.heap.size wr W) => HE.out.later h)
      clear hsz hsq
      go_wp2_with fail
      refine (HIC.out _ HE.out).mono ?_
      rintro e w2 ⟨is, his, rfl, hb2⟩
      have HIS : Hid (IsB is (udP E)) := Lib.hid his
      have HK2 := Lib.hid hb2
      clear his hb2 HIC
      have HICM : Hid (∀ W a c, E.length ≤ c → StrsIn W a (mirL E) → Calls Try.prog 6 #[.slice a E.length c] W (RetP (udP E) W)) := Lib.hid (fun W a c hc h => by
        have hm := listP_rev HLP.out
        have hml : (mirL E).length = E.length := by simp [mirL]
        have := implIsCode_ud (mirL E) a c W h (by omega) (by omega) (fun j hj => Nat.le_trans (hm.2 j hj).2.1.2 (by unfold maxLen; omega))
        rw [hml] at this
        exact this.mono fun e w' ⟨b, hb, he, hw⟩ => ⟨b, hb.trans (udP_rev HLP.out), he, hw⟩)
      have HPCM : Hid (∀ W a c, E.length ≤ c → StrsIn W a (mirL E) → Calls Try.prog 8 #[.slice a E.length c] W (RetP (suffP E) W)) := Lib.hid (fun W a c hc h => by
        have hm := listP_rev HLP.out
        have hml : (mirL E).length = E.length := by simp [mirL]
        have := implIsPrefixCode_any (mirL E) a c W h (by omega) (by omega) (fun j hj => Nat.le_trans (hm.2 j hj).2.1.2 (by unfold maxLen; omega))
        rw [hml] at this
        exact this.mono fun e w' ⟨b, hb, he, hw⟩ => ⟨b, hb.trans (prefP_rev HLP.out), he, hw⟩)
      have HTW : Hid (∀ W, StrsIn W aE E → Calls Try.prog 11 #[.slice aE E.length cE, .int .i64 8] W (RetTw E 8 W)) := Lib.hid (fun W h => implTwoReadings_any E aE cE 8 W h HLP.out hcE (by omega))
      have HKR := Lib.hid (fun W (h : StrsIn W aE E) => implKraftSum_any E aE cE W h HLP.out hcE)
      have HCR := Lib.hid (fun W v (h : StrsIn W aE E) (hv : wordOkB 4 v = true) => implCountReadings_any E aE cE v W h HLP.out hcE hv)
      have HRO : Hid (∀ W, StrsIn W aE E → Calls Try.prog 14 #[.slice aE E.length cE, .string s] W (RetRo E s W)) := Lib.hid (fun W h => implReadingOf_any E aE cE s W h HLP.out hcE HWO.out (fun c hc => rdn_pos HSQ.out hc))
      have HCL : Hid (∀ W, StrsIn W aE E → Calls Try.prog 15 #[.slice aE E.length cE] W fun e w' => e = .returned (.string (codeLine E)) ∧ Below W.heap.size W w') := Lib.hid (fun W h => implCodeLine_any E aE cE W h (by omega) (by have := sumW HAB.out; omega) hcE)
      go_wp2_with fail
      refine (HLO.out _ (HMW.out _ HK2.out)).mono ?_
      rintro e w3 ⟨rfl, hb3⟩
      have HK3 := Lib.hid (Below.now HK2.out hb3)
      clear hb3 HK2 HLO
      go_wp2_with fail
      refine (HPC.out _ (HMW.out _ HK3.out)).mono ?_
      rintro e w4 ⟨pf, hpf, rfl, hb4⟩
      have HK4 := Lib.hid (Below.now HK3.out hb4)
      have HPU : Hid (pf = true → is = true) := Lib.hid (fun h => HIS.out.iff.2 (pref_ud (hpf.1 h)))
      clear hb4 HK3 HPC hpf
      cases pf
      case' false =>
        go_wp2_with fail
        refine (HSC.out _ (HMW.out _ HK4.out)).mono ?_
        rintro e w5 ⟨sf, hsf, rfl, hb5⟩
        have HK5 := Lib.hid (Below.now HK4.out hb5)
        have HSU : Hid (sf = true → is = true) := Lib.hid (fun h => HIS.out.iff.2 (suff_ud (hsf.1 h)))
        clear hb5 HK4 hsf HPU
        cases sf
        case' true =>
          obtain rfl : is = true := HSU.out rfl
          clear HSU
        case' false =>
          clear HSU
          cases is
      case' true =>
        obtain rfl : is = true := HPU.out rfl
        clear HPU
        have HK5 := HK4
        obtain ⟨w5, hw5⟩ : ∃ w5, w4 = w5 := ⟨_, rfl⟩
        rw [hw5] at HK5
        subst hw5
        clear HK4
      all_goals
        go_wp2_with fail
        refine (HML.out _ (HMW.out _ HK5.out)).mono ?_
        rintro e w6 ⟨a6, c6, rfl, hm6, hc6, hb6⟩
        have HK6 := Lib.hid (Below.now HK5.out hb6)
        have HM6 := Lib.hid hm6
        clear hb6 hm6 HK5
        go_wp2_with fail
        refine (HICM.out _ a6 c6 hc6 HM6.out).mono ?_
        rintro e w7 ⟨b7, h7, rfl, hb7⟩
        have e7 := bool_iff h7 HIS.out.iff
        subst e7
        have HK7 := Lib.hid (Below.now HK6.out hb7)
        clear hb7 h7 HM6 HK6 HICM hc6
        go_wp2_with fail
        refine (HML.out _ (HMW.out _ HK7.out)).mono ?_
        rintro e w8 ⟨a8, c8, rfl, hm8, hc8, hb8⟩
        have HK8 := Lib.hid (Below.now HK7.out hb8)
        have HM8 := Lib.hid hm8
        clear hb8 hm8 HK7 HML
        go_wp2_with fail
        refine (HPCM.out _ a8 c8 hc8 HM8.out).mono ?_
        rintro e w9 ⟨b9, h9, rfl, hb9⟩
        have HK9 := Lib.hid (Below.now HK8.out hb9)
        have H9 := Lib.hid h9
        clear hb9 h9 HM8 HK8 HPCM hc8
        go_wp2_with fail
        refine (HSC.out _ (HMW.out _ HK9.out)).mono ?_
        rintro e w10 ⟨b10, h10, rfl, hb10⟩
        have e10 := bool_iff h10 H9.out
        subst e10
        have HK10 := Lib.hid (Below.now HK9.out hb10)
        clear hb10 h10 H9 HK9 HSC
        have hbb : (b10 != b10) = false := by cases b10 <;> rfl
        go_wp2_with fail
        refine (HTW.out _ (HMW.out _ HK10.out)).mono ?_
        rintro e w11 ⟨v, two, rfl, htw, hb11⟩
        have HK11 := Lib.hid (Below.now HK10.out hb11)
        clear hb11 HK10 HTW
        have hs16i : ¬ (16 : Int) < (s.size : Int) := by omega
        cases two
        case' true =>
          obtain ⟨hv8, X, hX, hX2⟩ := htw rfl
          have hnu := two_not HND.out hX hX2
          first
            | exact absurd (HIS.out.iff.1 rfl) hnu
            | (obtain ⟨xs, hxs⟩ := rd_some hX hX2
               have hvo := sq_ok HAB.out hxs (by omega)
               have HX := Lib.hid hX
               clear hX hxs hnu htw hv8
               go_wp2_with fail
               refine (HCR.out _ v (HMW.out _ HK11.out) hvo).mono ?_
               rintro e w12 ⟨c, hc, rfl, hb12⟩
               have hc2 : ¬ (c : Int) < 2 := by have := rdn_len HX.out hc; omega
               have HK12 := Lib.hid (Below.now HK11.out hb12)
               clear hb12 HK11 hc HX)
        case' false =>
          have HK12 := HK11
          clear HK11 htw
        all_goals
          go_wp2_with fail
          refine (HKR.out _ (HMW.out _ HK12.out)).mono ?_
          rintro e w13 ⟨rfl, hb13⟩
          have HK13 := Lib.hid (Below.now HK12.out hb13)
          clear hb13 HK12 HKR
          first
            | (have hkn := kr_le HND.out HAB.out (HIS.out.iff.1 rfl)
               have hkr : ¬ (64 : Int) < ((krS 6 (bwL E) : Nat) : Int) := by omega)
            | skip
          generalize krS 6 (bwL E) = kw at *
          go_wp2_with fail
          refine (HCR.out _ s (HMW.out _ HK13.out) HWO.out).mono ?_
          rintro e w14 ⟨n, hn, rfl, hb14⟩
          have hn1 := rdn_pos HSQ.out hn
          have hn1i : (1 : Int) ≤ (n : Int) := by omega
          first
            | (have hn2 := rdn_one HND.out (HIS.out.iff.1 rfl) hn
               obtain rfl : n = 1 := by omega)
            | skip
          have HK14 := Lib.hid (Below.now HK13.out hb14)
          clear hb14 HK13 hn HCR
          go_wp2_with fail
          refine (HRO.out _ (HMW.out _ HK14.out)).mono ?_
          rintro e w15 ⟨rs, a15, c15, hrs, hr16, rfl, hri, hb15⟩
          have HK15 := Lib.hid (Below.now HK14.out hb15)
          have HRS := Lib.hid hrs
          have HRI := Lib.hid hri
          clear hb15 HK14 hrs hri HRO
          go_wp2_with fail
          go_loopw [14, 117] (fun vt vj wr2 => ∃ (j : Nat) (t : ByteArray), j ≤ rs.length ∧ vj = .int .i64 (j : Nat) ∧ vt = .string t ∧ Hid (t.data.toList = ((rs.take j).map fun i => (bwL E).getD i []).flatten) ∧ t.size ≤ 5 * j ∧ wr2 = w15) (fun _ vj _ => rs.length - (intOf vj).toNat)
          case atStart => exact ⟨0, ⟨#[]⟩, Nat.zero_le _, rfl, rfl, Lib.hid (by simp), Nat.le_refl _, rfl⟩
          case round =>
            obtain ⟨j, t, hj, rfl, rfl, HT, htz, rfl⟩ := hrel
            by_cases hjl : j < rs.length
            · have hji : (j : Int) < (rs.length : Int) := by omega
              obtain ⟨b16, o16, rfl, _, hc16⟩ := HRI.out.cell (i := j) (by simpa using hjl)
              have hcj := hc16 j (by simpa using hjl)
              rw [nthZ_nat hjl] at hcj
              have hil : rs.getD j 0 < E.length := by
                have := HRS.out.1 (rs.getD j 0) (by simp [List.getD_eq_getElem?_getD, hjl])
                unfold bwL at this; simpa using this
              have hps := part_succ (L := bwL E) hjl
              obtain ⟨i, hi⟩ : ∃ i, rs.getD j 0 = i := ⟨_, rfl⟩
              rw [hi] at hcj hil hps
              obtain ⟨bl, off, rfl, _, hc⟩ := (HMW.out _ HK15.out).cell hil
              have hci := hc i hil
              have hab := HAB.out _ (nthS_mem hil)
              have hii : (i : Int) < (E.length : Int) := by omega
              have hii2 : ¬ (E.length : Int) ≤ (i : Int) := by omega
              have hes : ¬ 9223372036854775807 < t.size + (nthS E i).size := by have := hab.2.2; omega
              have HT2 : Hid ((t ++ nthS E i).data.toList = ((rs.take (j + 1)).map fun i => (bwL E).getD i []).flatten) := Lib.hid (by
                rw [hps, cat_list, HT.out]
                congr 1
                unfold bwL; simp [List.getD_eq_getElem?_getD, nthS_lt hil, hil])
              have htz2 : (t ++ nthS E i).size ≤ 5 * (j + 1) := by rw [ByteArray.size_append]; have := hab.2.2; omega
              clear hc hc16 hab hi hps
              go_wp2_with fail
              go_roundw
              case rel => exact ⟨j + 1, _, by omega, by go_num, rfl, HT2, htz2, trivial⟩
              case measure => simp [intOf]; omega
            · obtain rfl : j = rs.length := by omega
              have hte : t = s := by
                have h1 := HT.out
                rw [List.take_length] at h1
                exact ba_inj (h1.trans HRS.out.2)
              subst hte
              clear HT
              have hcl := cl_ne HLP.out
              have hcq : ((codeLine E).toList == [110, 111, 110, 101]) = false := by
                rw [Lib.toList_data, beq_eq_false_iff_ne]
                exact fun e => hcl (ba_inj e)
              clear hcl
              generalize codeLine E = cl at *
              go_wp2_with fail
              refine (HCL.out _ (HMW.out _ HK15.out)).mono ?_
              rintro e w16 ⟨rfl, hb16⟩
              have F : Hid (Below w.heap.size w w16) := Lib.hid (Below.now HB.out (Below.now HK15.out hb16))
              clear hb16
              go_wp2_with fail
              go_ret
              exact ⟨rfl, F.out⟩
theorem walkBig (a : Option Addr) (n cap : Nat) (w : World) (hn : n ≤ 9223372036854775807) (h : 1048576 < n) :
    Calls Try.prog 3 #[.slice a n cap] w fun e w' => e = .returned (.bool true) ∧ Below w.heap.size w w' := by
  have hq0 : (1048576 : Int) < (n : Int) := by omega
  go_enter Try.func3, Try.ntmps3
  go_wp2_with fail
  go_ret
  exact ⟨rfl, Below.refl _ _⟩
end Go.Proofs.Ytmgdglghjlggnaa.fnCodes
namespace Go.Proofs.Ytmgdglghjlggnaa
open Go.ChangeShapes Go.WideShapes Go.ChangeAt Go.RowKit Go.Joins Go.Deep
set_option linter.unusedVariables false
theorem open_bytesIn {H : Type} {enc : TypeId × Value → H} {P : Program} {w : World} {r : Go.Reach} {b0 : Nat} {t e : TypeId} {v : Value} {d : DataW H} {p : List MemPlace} (ht : P.underlying t = some (.slice e)) (he : P.underlying e = some (.int .u8)) (hc : P.cellsOf e = 1)
    (hv : Value.okWide P w r b0 t v) (h : DataW.Trod enc P w 0 (fun _ => true) true t v d p) : ∃ a l cap, v = .slice a (List.length (α := UInt8) l) cap ∧ BytesIn w a l ∧ l.length ≤ 9223372036854775807 := by
  obtain ⟨a0, len0, cap0, rfl⟩ := okWide_slice ht hv
  obtain ⟨fuel, hf⟩ := h
  rcases open_ints ht he hc hf with ⟨hcs, _⟩ | ⟨a, len, cap, zs, hcs, _, hl, hm, hz, _, hcell, hwz⟩
  · have e : (Value.slice a0 len0 cap0) = .slice none 0 0 := by simpa [Value.cells] using hcs
    rw [e]
    exact ⟨none, [], 0, rfl, .inl rfl, by simp⟩
  · have e : (Value.slice a0 len0 cap0) = .slice (some a) len cap := by simpa [Value.cells] using hcs
    rw [e]
    simp only [if_true] at hz
    have hlen : ((zs.take len).map fun n => UInt8.ofNat n.toNat).length = len := by rw [List.length_map, List.length_take]; omega
    refine ⟨some a, (zs.take len).map fun n => UInt8.ofNat n.toNat, cap, by rw [hlen], ?_, by rw [hlen]; unfold maxLen at hm; omega⟩
    by_cases h0 : len = 0
    · left; subst h0; simp
    · obtain ⟨b, off, rfl, hc'⟩ := ints_at hcell (by omega)
      right
      refine ⟨b, off, rfl, fun i hi => ?_⟩
      rw [List.length_map, hlen] at hi
      rw [hc' i (by omega)]
      have hb := range_u8 hwz i
      rw [List.getElem?_eq_getElem (show i < zs.length by omega), Option.getD_some] at hb
      have e : zs.getD i 0 = zs[i]'(by omega) := by simp [List.getD, List.getElem?_eq_getElem (show i < zs.length by omega)]
      simp only [List.getElem_map, List.getElem_take]
      rw [e]
      congr 2
      simp only [UInt8.toNat_ofNat']
      omega
end Go.Proofs.Ytmgdglghjlggnaa
namespace Go.Proofs.Ytmgdglghjlggnaa.fnCodes
open Go.ChangeShapes Go.WideShapes Go.ChangeAt Go.RowKit Go.Joins
set_option linter.unusedVariables false
theorem own : ownKnob Try.prog.godebug = none := by kernel_rfl
theorem laidOut : laidOutB Try.prog = true := by kernel_rfl
theorem cellsB : Try.prog.cellsOf 5 = 1 := by kernel_rfl
theorem rdB : Try.prog.readableRec 22 = true ∧ 22 < Try.prog.types.size := ⟨by kernel_rfl, of_decide_eq_true (by kernel_rfl)⟩
theorem rd : ∀ t ∈ Try.f3.params.toList, Try.prog.readableRec t = true ∧ t < Try.prog.types.size := by
  rw [Try.params3]
  intro t ht
  simp at ht
  subst ht
  exact rdB
theorem walk (a : Option Addr) (l : List UInt8) (cap : Nat) (w : World) (hl : BytesIn w a l) (hn : l.length ≤ 9223372036854775807) :
    Calls Try.prog 3 #[.slice a l.length cap] w fun e w' => e = .returned (.bool true) ∧ Below w.heap.size w w' := by
  by_cases h : l.length ≤ 1048576
  · exact walkSmall a l cap w hl h
  · exact walkBig a l.length cap w hn (by omega)
set_option maxRecDepth 100000 in
theorem lifted (os : Os) (started : os.Started) (H : Type) (enc : TypeId × Value → H) :
    ReturnsInHanded {} Try.checked os 3 .any (Rows.fnCodesSpec.pre6 enc Try.prog Try.f3 Rows.fnCodesRow.domain false) (Rows.fnCodesSpec.post enc Try.prog Try.f3 false true false false) := by
  refine returnsInHanded_of_change (C := Try.checked) own started (by kernel_rfl) Try.func3
    (ChangeSpec.witness6 (enc := enc) (C := Try.checked) false ⟨#[], #[.slice none 0 0], []⟩ 8 (by kernel_rfl) (by kernel_rfl) (by kernel_rfl) (by kernel_rfl)) ?_
  intro W base args ds gs before hval0 hW hcnd _
  have hval : ∀ (j : Nat) t v, Try.f3.params[j]? = some t → args[j]? = some v → Value.okWide Try.prog W .any base t v := hval0
  have hW' := hW
  obtain ⟨p, q, hA0, hV, rfl, hfz, hnd⟩ := hW
  have hA : DataW.TrodAll enc Try.prog W 0 (fun _ => true) true Try.f3.params.toList args.toList ds p := hA0
  rw [Try.params3] at hA hval
  obtain ⟨v0, vs0, d0, ds0, p0, q0, hargs, rfl, rfl, h0, r0⟩ := trodAll_cons hA
  obtain ⟨rfl, rfl, rfl⟩ := trodAll_nil r0
  obtain rfl : args = #[v0] := by cases args; simp_all
  obtain ⟨rfl, rfl⟩ := trodVars_none hV
  obtain ⟨a0, l0, c0, rfl, hl0, hn0⟩ := open_bytesIn Try.underlying22 Try.underlying5 cellsB (hval 0 22 v0 rfl rfl) h0
  clear hA0 hval0
  refine (walk a0 l0 c0 W hl0 hn0).mono fun e W' ⟨he, hg⟩ => ?_
  subst he
  exact ⟨_, rfl, law_post laidOut rd rfl hW' rfl Try.underlying4 rfl hg⟩
theorem over : Rows.fnCodesRow.holds Try.pinned (OpenSpec.ofChange Rows.fnCodesSpec) :=
  OpenClaim.holds_of_wide 3 Try.f3 rfl rfl rfl rfl rfl rfl rfl ⟨rfl, rfl, rfl, rfl, rfl⟩ rfl rfl rfl rfl rfl (by kernel_rfl) Try.func3 (by kernel_rfl)
    (of_decide_eq_true (by kernel_rfl)) (by unfold Func.isWrapper; first | (rw [if_pos (by decide +kernel)]; kernel_rfl) | (rw [if_neg (by decide +kernel)]; exact ⟨rfl, rfl⟩))
    (fun os started H enc _ => lifted os started H enc)
theorem proved : Rows.FnCodesSaid :=
  over
#print axioms proved
end Go.Proofs.Ytmgdglghjlggnaa.fnCodes
