/-
  The bound at twelve words of at most eight letters out of four: some of them are short.
-/
import Derived.Test.YtoddpmdjjgnpgaaGreatDoorGra16
import Derived.Test.YtoddpmdjjgnpgaaGreatDoorGra08
import Derived.Maps.OwnSet
import Derived.Test.YtoddpmdjjgnpgaaGreatDoorGra07
namespace Go.Proofs.YtoddpmdjjgnpgaaGreatDoor
open Go.RowKit Go.Maps Go.WideMaps
set_option linter.unusedVariables false
theorem wpList_insert_ownG {H : Type} {P : Program} (w : World) {ops : Array Oper} {rest : List Oper} {o : Oper} {a : Act} {Q : Exit → Act → World → Prop}
    (hg : o.guard = none) (m x v : Operand) (t : TypeId) (hop : o.op = Op.insert t m x v)
    (k e : TypeId) (K : Keyed P k) (ht : P.underlying t = some (.map k e)) (R : Value → Option (DataW H × List MemPlace)) (b n : Nat) (D : DataW H)
    (hm : a.eval m = .map (some b)) (hown : w.ownsMap P k R b n D) (hn : n < maxLen) (key val : Value) (kl : Lit) (hx : a.eval x = key) (hv : a.eval v = val) (hkey : keyOf P k key = some kl)
    (d : DataW H) (ps : List MemPlace) (hval : R val = some (d, ps))
    (hK : ∀ w', w'.ownsMap P k R b (n + 1) (D.put kl d) → w.grownBy w' (some b) → wpList P ops Q rest (a.put o.dst undef) w') :
    wpList P ops Q (o :: rest) a w := by
  refine wpList_plain hg fun K' hK' => ?_
  obtain ⟨w', hrun, r1, r2⟩ := hown.update K ht hn hkey hval
  unfold Oper.wp
  simp [execOp, hop, hm, hx, hv, hrun, Result.andThen]
  exact hK' _ _ (hK w' r1 r2)
theorem keySG : Keyed Tryz.prog 9 := string_keyed Tryz.underlying9
theorem keyOkG (s : ByteArray) (h : s.size ≤ maxLen) : keyOf Tryz.prog 9 (.string s) = some (keyL s) := keyOf_string_mk Tryz.underlying9 h
theorem zeroIntG (w : World) : (zeroValue 3).run Tryz.prog w = .ok (.int .i64 0) w := by kernel_rfl
abbrev OwnM (w : World) (b m : Nat) (D : DataW Unit) : Prop := w.ownsMap Tryz.prog 9 (plainElem (H := Unit) Tryz.prog 3) b m D
theorem belowGrown {w w' : World} (h : Below w.heap.size w w') : w.grownBy w' none := ⟨h.os, h.tape, h.output, h.size, fun k hk _ => h.block k hk⟩
theorem own_ne_map {w : World} {base : Nat} {T : TypeId} {size : Nat} {v : Value} {n : Nat} {xs : List Value} {b m : Nat} {D : DataW Unit} (h : w.ownsRow base T size v n xs) (hm : OwnM w b m D) : some b ≠ v.ownBlock := fun e => by
  obtain ⟨es, clock, hb, _⟩ := hm
  rcases h.2 with ⟨rfl, _⟩ | ⟨g, cap, cur, rfl, _, hg, _⟩
  · cases e
  · simp only [Value.ownBlock, Option.some.injEq] at e
    subst e
    rw [hb] at hg; cases hg
theorem own_ne_iter {w : World} {base : Nat} {T : TypeId} {size : Nat} {v : Value} {n : Nat} {xs : List Value} {b r m : Nat} {D : DataW Unit} {left : Lit → Bool} {cnt : Nat} (h : w.ownsRow base T size v n xs) (hm : w.ranges Tryz.prog 9 (plainElem (H := Unit) Tryz.prog 3) b r m D left cnt) : some r ≠ v.ownBlock := fun e => by
  obtain ⟨_, _, _, _, _, _, _, _, _, hit, _⟩ := hm
  rcases h.2 with ⟨rfl, _⟩ | ⟨g, cap, cur, rfl, _, hg, _⟩
  · cases e
  · simp only [Value.ownBlock, Option.some.injEq] at e
    subst e
    rw [hit] at hg; cases hg
theorem bldMap {T : TypeId} {w wr wr' : World} {v : Value} {n : Nat} {xs : List Value} {b : Nat} (h : Bld T 1 w wr v n xs) (hg : wr.grownBy wr' (some b)) (hne : some b ≠ v.ownBlock) (hb : w.heap.size ≤ b) : Bld T 1 w wr' v n xs :=
  keptB h hg (fun k hk e => hne (by rw [hk]; exact e)) (fun k hk => by cases hk; exact hb)
theorem invKG (key : Value) (kl : Lit) (h : keyOf Tryz.prog 9 key = some kl) : ∃ x, key = Value.string x := by
  obtain ⟨s, h1, _⟩ := string_of_keyOf Tryz.underlying9 h
  exact ⟨s, h1⟩
theorem invVG (v : Value) (y : DataW Unit × List MemPlace) (h : plainElem (H := Unit) Tryz.prog 3 v = some y) : ∃ c, v = Value.int .i64 c := by
  obtain ⟨c, h1, _⟩ := plainElem_int_inv Tryz.underlying3 h
  exact ⟨c, h1⟩
theorem wf64 {c : Nat} (h : c ≤ 34359738368) : (Lit.int .i64 (c : Int)).wf = true := by
  have h1 : IntKind.i64.min = -9223372036854775808 := by decide
  have h2 : IntKind.i64.max = 9223372036854775807 := by decide
  simp only [Lit.wf, h1, h2, Bool.and_eq_true, decide_eq_true_eq]; omega
set_option maxRecDepth 100000 in
set_option maxHeartbeats 4000000 in
theorem growth_any (kn nn : Nat) (R : List RulD) (a : Option Addr) (cap : Nat) (w : World) (hl : RulesIn w a R) (hlen : R.length ≤ 2 ^ 40) (hsp : sysP (kn : Int) R) (hnn : nn ≤ 16) :
    Calls Tryz.prog 51 #[.agg #[.int .i64 (kn : Nat), .slice a R.length cap], .int .i64 (nn : Nat)] w (RetSl 3 1 (growL R kn nn).length (zVals (growL R kn nn)) w) := by
  obtain ⟨h12, hsz, hk1, hk4⟩ := sys_sizes hsp
  have hkn : kn ≤ 4 := by omega
  have hz : SzR R := fun j hj => by have := hsz j hj; unfold maxLen; omega
  have HL := Lib.hid hl
  have HN := Lib.hid (fun W h => newReader_any (kn : Nat) R a cap W h hlen hz)
  have hk7 : keepR R ≤ 8 := by
    have key : ∀ j, j ≤ R.length → lsTo R j ≤ 8 := fun j => by
      induction j with
      | zero => intro _; exact Nat.zero_le _
      | succ j ih =>
        intro h
        have h1 := ih (by omega)
        have h2 := (hsz j (by omega)).1
        show max _ _ ≤ _
        omega
    have h1 := key R.length (Nat.le_refl _)
    unfold keepR lsL
    omega
  have HK7 := Lib.hid hk7
  have hmm := @run_makeMap Tryz.prog
  have hb0 := alloc_belowS w (.cells #[.int .i64 (kn : Nat), .slice a R.length cap] 25)
  have hbx := alloc_at w (.cells #[.int .i64 (kn : Nat), .slice a R.length cap] 25)
  have hk0 := keyOkG ⟨#[]⟩ (by decide)
  clear hl hz hk7 hsp hsz
  go_enter Tryz.func51, Tryz.ntmps51
  go_wp2_with fail
  refine (HN.out _ (HL.out.later hb0)).mono ?_
  rintro e w5 ⟨p, rfl, hrd, hp, hb5⟩
  have HB5 := Lib.hid (Below.now hb0 hb5)
  have hs5 : w.heap.size < w5.heap.size := by have := hb5.size; simp at this; omega
  have HBX : Hid (∀ W2, Below w5.heap.size w5 W2 → W2.cell? ⟨w.heap.size, 0, none⟩ = some (.int .i64 (kn : Nat))) := Lib.hid (fun W2 hW2 => (sys_cells ((hW2.block w.heap.size hs5).trans ((hb5.block w.heap.size (by simp)).trans hbx))).1)
  have HRD := Lib.hid hrd
  clear hrd hp hb5 hb0 hbx HN
  go_wp2_with (first
    | (refine wpList_insert_ownG _ rfl _ _ _ 148 rfl 9 3 keySG Tryz.underlying148 (plainElem (H := Unit) Tryz.prog 3) w5.heap.size 0 (.map []) rfl (World.ownsMap_made _ _ _ _) (by decide) _ _ _ rfl rfl hk0 _ [] (plainElem_int Tryz.underlying3 (by decide)) ?_; intro w6 hown6 hgrow6)
    | go_in)
  have HB6 : Hid (Below w5.heap.size w5 w6) := Lib.hid ((alloc_belowS w5 (.map #[] 0)).grown hgrow6 (by simp) (fun j hj => by cases hj; exact Nat.le_refl _))
  have HO6 : Hid (OwnM w6 w5.heap.size 1 (DataW.put (.map []) (keyL ⟨#[]⟩) (.lit (.int .i64 1)))) := Lib.hid hown6
  have HR6 : Hid (RepM (DataW.put (.map []) (keyL ⟨#[]⟩) (.lit (.int .i64 1))) [(⟨#[]⟩, 1)]) := Lib.hid (RepM.nil.new 1 (fun p hp => (by cases hp)))
  have h65 := HB6.out.size
  have hl6 := hown6.lt
  have HL6 : Hid (Bld 3 1 w5 (w6.alloc (.cells #[.int .i64 1] 3)) (.slice (some ⟨w6.heap.size, 0, none⟩) 1 1) 1 (zVals (growL R kn 0))) := Lib.hid
    ⟨World.ownsRow_lit w6 (base := w5.heap.size) #[.int .i64 1] 1 h65 (by unfold maxLen; omega) (by simp), HB6.out.alloc h65 _⟩
  have HO6a : Hid (OwnM (w6.alloc (.cells #[.int .i64 1] 3)) w5.heap.size 1 (DataW.put (.map []) (keyL ⟨#[]⟩) (.lit (.int .i64 1)))) := Lib.hid (HO6.out.alloc _)
  have HWS := Lib.hid (WayAt.start R kn)
  clear hown6 hgrow6 hk0 hl6
  go_wp2_with fail
  go_loopw [6, 7, 21] (fun vm vo vi wr => ∃ (i : Nat) (W : WayD) (b m : Nat) (D : DataW Unit), i ≤ nn ∧ vi = .int .i64 (i : Nat) ∧ vm = .map (some b) ∧ WayAt R kn i W ∧ RepM D W ∧ OwnM wr b m D ∧ w5.heap.size ≤ b ∧ Bld 3 1 w5 wr vo (i + 1) (zVals (growL R kn i))) (fun _ _ vi _ => nn - (intOf vi).toNat)
  case atStart => exact ⟨0, _, _, _, _, Nat.zero_le _, rfl, rfl, HWS.out, HR6.out, HO6a.out, Nat.le_refl _, HL6.out⟩
  case round =>
    clear HB6 HO6 HR6 HL6 HO6a HWS h65
    obtain ⟨i, W, b, m, D, hi, rfl, rfl, hwa, hrep, hom, hb5b, hbd⟩ := hrel
    obtain ⟨go, co, rfl⟩ := owns_slot hbd.1 (by omega)
    have HWA := Lib.hid hwa
    have HREP := Lib.hid hrep
    have HOM := Lib.hid hom
    have HB := Lib.hid hbd
    clear hwa hrep hom hbd
    by_cases hlt : i < nn
    · have HOMa := Lib.hid (World.ownsMap.alloc HOM.out (.map #[] 0))
      have HO2 : Hid (OwnM (wr.alloc (.map #[] 0)) wr.heap.size 0 (.map [])) := Lib.hid (World.ownsMap_made _ _ _ _)
      have HBa := Lib.hid (HB.out.later (alloc_belowS wr (.map #[] 0)))
      have hbwr := HOM.out.lt
      have hw5r := HB.out.2.size
      have HRS : Hid (doneW (Maps.has D) W = []) := Lib.hid (doneW_start HREP.out)
      go_wp2_with (first
        | (at_range; refine wpList_range_own _ rfl _ 148 rfl 9 3 keySG Tryz.underlying148 _ b m _ rfl HOMa.out ?_; intro w8 hrg8 hg8 hs8)
        | go_in)
      have hs8' : w8.heap.size = wr.heap.size + 1 + 1 := by rw [hs8]; simp
      have hrr : (wr.alloc (.map #[] 0)).heap.size = wr.heap.size + 1 := by simp
      rw [hrr] at hrg8 ⊢
      have HRG8 := Lib.hid hrg8
      have HO8 : Hid (OwnM w8 wr.heap.size 0 (.map [])) := Lib.hid (HO2.out.kept hg8 (by simp))
      have HB8 : Hid (Bld 3 1 w5 w8 (.slice (some ⟨go, 0, none⟩) (i + 1) co) (i + 1) (zVals (growL R kn i))) := Lib.hid (keptB HBa.out hg8 (fun k hk e => (by cases e)) (fun k hk => (by cases hk)))
      clear hrg8 hg8 hs8 HO2 HOMa HBa HOM HB
      go_frame
      generalize hb2 : wr.heap.size = b2 at *
      have hbb2 : b < b2 := hbwr
      clear hb2 hbwr hs8' hrr
      generalize hW : wr = wr0 at *
      clear hW
      go_loopw [9] (fun vs wr2 => ∃ (left : Lit → Bool) (cnt m2 : Nat) (V : WayD) (D2 : DataW Unit), vs = .int .i64 ((wsum R kn 0 V : Nat) : Int) ∧ wr2.ranges Tryz.prog 9 (plainElem (H := Unit) Tryz.prog 3) b (b2 + 1) m D left cnt ∧ OwnM wr2 b2 m2 D2 ∧ m2 ≤ wsum R kn 0 V ∧ RepM D2 V ∧ WayG R kn (doneW left W) 0 ⟨#[]⟩ 0 V ∧ Bld 3 1 w5 wr2 (.slice (some ⟨go, 0, none⟩) (i + 1) co) (i + 1) (zVals (growL R kn i)))
        (fun _ wr2 => wr2.rangeLeft b (b2 + 1))
      case atStart => exact ⟨_, _, 0, [], .map [], rfl, HRG8.out, HO8.out, Nat.zero_le _, RepM.nil, by rw [HRS.out]; exact WayG.start _ _ _ _, HB8.out⟩
      case round =>
        clear HRG8 HO8 HB8 HRS
        obtain ⟨left, cnt, m2, V, D2, rfl, hrg, hom2, hm2, hrep2, hwg, hbd⟩ := hrel
        have HRG := Lib.hid hrg
        have HO2 := Lib.hid hom2
        have HP2 := Lib.hid hrep2
        have HWG := Lib.hid hwg
        have HB := Lib.hid hbd
        have hsum : wsum R kn 0 V ≤ 17179869184 := by
          have h1 := hwg.le0 hkn HWA.out
          have h2 := pow16 (show i + 1 ≤ 17 by omega)
          omega
        clear hrg hom2 hrep2 hwg hbd
        go_wp2_with (first
          | (at_next; refine wpList_next_ranges _ rfl _ rfl 9 keySG (plainElem (H := Unit) Tryz.prog 3) Value.string (Value.int .i64) invKG invVG b (b2 + 1) m _ _ _ rfl HRG.out ?_ ?_)
          | go_in)
        · intro _ hl0
          have HWN := Lib.hid (HWG.out.done HWA.out hl0)
          have HSU : Hid (((wsum R kn 0 V : Nat) : Int) = ((paths R kn (i + 1) ⟨#[]⟩ : Nat) : Int)) := Lib.hid (by rw [HWN.out.eq 0, Nat.add_zero])
          clear hl0
          generalize wsum R kn 0 V = su at *
          have HOA : Hid (Bld 3 1 w5 (wr.alloc (.cells #[.int .i64 (su : Int)] 3)) (.slice (some ⟨go, 0, none⟩) (i + 1) co) (i + 1) (zVals (growL R kn i))) := Lib.hid (HB.out.later (alloc_belowS _ _))
          have HO2a := Lib.hid (World.ownsMap.alloc HO2.out (.cells #[.int .i64 (su : Int)] 3))
          have HN1 : Hid ([Value.int .i64 (su : Int)].length = 1 * 1) := Lib.hid rfl
          have HN2 : Hid (∀ u ∈ [Value.int .i64 (su : Int)], u.oneCell' = true) := Lib.hid (fun u hu => by rw [List.mem_singleton.1 hu]; rfl)
          go_wp2_with (at_builtin; refine wpList_appM rfl (.tmp 54) (.tmp 56) rfl Tryz.underlying27 Tryz.infoInt rfl (by decide) rfl HOA.out rfl (Src.lit _) HN1.out HN2.out ?a1 ?a2 ?a3)
          case a1 => unfold maxLen; omega
          case a2 => omega
          intro v4 w4 hb4 hg4 ho4
          have HB4 : Hid (Bld 3 1 w5 w4 v4 (i + 1 + 1) (zVals (growL R kn (i + 1)))) := Lib.hid (by
            rw [growL_succ, zVals_app, ← HSU.out]; exact hb4)
          have HO4 : Hid (OwnM w4 b2 m2 D2) := Lib.hid (HO2a.out.kept hg4 (own_ne_map HOA.out.1 HO2a.out))
          clear hb4 hg4 ho4
          go_wp2_with fail
          go_roundw
          case rel => exact ⟨i + 1, V, b2, m2, D2, by omega, by go_num, rfl, HWN.out, HP2.out, HO4.out, by omega, HB4.out⟩
          case measure => simp [intOf]; omega
        · intro x c kl yd yp w9 cnt9 hkey hlk hv hat hrg9 hlt9 hg9 hs9 hen
          obtain ⟨s', hs', hkl, _⟩ := string_of_keyOf Tryz.underlying9 hkey
          cases hs'
          obtain ⟨c', hc', hy, _⟩ := plainElem_int_inv Tryz.underlying3 hv
          cases hc'
          cases hy
          subst hkl
          obtain ⟨j, hj, hje, hjc⟩ : ∃ j, ∃ hj : j < W.length, W[j].1 = x ∧ (W[j].2 : Int) = c := by
            rcases HREP.out.look x with ⟨j, hj, h1, h2⟩ | ⟨h1, h2⟩
            · have h3 := (h2 (.lit (.bool true))).symm.trans (hat (.lit (.bool true)))
              simp only [DataW.lit.injEq, Lit.int.injEq, true_and] at h3
              exact ⟨j, hj, h1, h3⟩
            · have h3 := (h2 (.lit (.bool true))).symm.trans (hat (.lit (.bool true)))
              simp at h3
          subst hje hjc
          have HAP := HREP.out.1
          have hesz : W[j].1.size ≤ 8 := by
            have h1 := HWA.out.short _ (List.getElem_mem hj)
            have h2 := HK7.out
            omega
          have HCP : Hid (1 ≤ W[j].2) := Lib.hid (HWA.out.pos _ (List.getElem_mem hj))
          have hcb : W[j].2 ≤ 17179869184 := by
            have h2 := wsum_take_le R kn 0 W (j + 1)
            rw [wsum_take _ _ _ _ hj, paths0] at h2
            have h4 := HWA.out.eq 0
            have h5 := paths_le (R := R) hkn (i + 0) ⟨#[]⟩
            have h6 := pow16 (show i + 0 ≤ 17 by omega)
            omega
          have HROW : Hid (∀ V, WayG R kn (doneW left W) kn W[j].1 W[j].2 V → WayG R kn (doneW (fun z => left z && !z.sameKey (keyL W[j].1)) W) 0 ⟨#[]⟩ 0 V) := Lib.hid (fun V h => h.row HAP hj hlk _ _)
          have HLE : Hid (∀ V x, x ≤ kn → WayG R kn (doneW left W) x W[j].1 W[j].2 V → wsum R kn 0 V ≤ 17179869184) := Lib.hid (fun V x hx h => by
            have h1 := WayG.le hkn HAP HWA.out hj hlk hx h
            have h2 := pow16 (show i + 1 ≤ 17 by omega)
            omega)
          have HWJ : Hid (WayG R kn (doneW left W) 0 W[j].1 W[j].2 V) := Lib.hid HWG.out.other
          have HRG9 : Hid (w9.ranges Tryz.prog 9 (plainElem (H := Unit) Tryz.prog 3) b (b2 + 1) m D (fun z => left z && !z.sameKey (keyL W[j].1)) cnt9) := Lib.hid hrg9
          have HO9 : Hid (OwnM w9 b2 m2 D2) := Lib.hid (HO2.out.kept hg9 (by simp))
          have HB9 : Hid (Bld 3 1 w5 w9 (.slice (some ⟨go, 0, none⟩) (i + 1) co) (i + 1) (zVals (growL R kn i))) := Lib.hid (bldMap HB.out hg9 (own_ne_iter HB.out.1 HRG.out) (by omega))
          have HLO := Lib.hid HRG.out.left_eq
          have hkb := HBX.out w9 HB9.out.2
          clear hrg9 hat hlk hkey hv hg9 hs9 HAP HO2 HB HWG HRG
          generalize (fun z => left z && !z.sameKey (keyL W[j].1)) = lf at *
          generalize W[j].1 = e at *
          generalize W[j].2 = cn at *
          go_wp2_with fail
          generalize hW : wr = wr1 at *
          have HWR := Lib.hid hW
          clear hW
          go_loopw [9, 33] (fun vs vx wr => ∃ (x m2 : Nat) (V : WayD) (D2 : DataW Unit), x ≤ kn ∧ vx = .int .i64 (x : Nat) ∧ vs = .int .i64 ((wsum R kn 0 V : Nat) : Int) ∧ wr.ranges Tryz.prog 9 (plainElem (H := Unit) Tryz.prog 3) b (b2 + 1) m D lf cnt9 ∧ OwnM wr b2 m2 D2 ∧ m2 ≤ wsum R kn 0 V ∧ RepM D2 V ∧ WayG R kn (doneW left W) x e cn V ∧ Bld 3 1 w5 wr (.slice (some ⟨go, 0, none⟩) (i + 1) co) (i + 1) (zVals (growL R kn i))) (fun _ vx _ => kn - (intOf vx).toNat)
          case atStart => exact ⟨0, m2, V, D2, Nat.zero_le _, rfl, rfl, HRG9.out, HO9.out, hm2, HP2.out, HWJ.out, HB9.out⟩
          case round =>
            clear HRG9 HO9 HWJ HB9 HP2 hm2 hsum hkb hen
            obtain ⟨x, m2, V, D2, hx, rfl, rfl, hrg, hom2, hm2, hrep2, hwg, hbd⟩ := hrel
            have HRG := Lib.hid hrg
            have HO2 := Lib.hid hom2
            have HP2 := Lib.hid hrep2
            have HWG := Lib.hid hwg
            have HB := Lib.hid hbd
            have hsum : wsum R kn 0 V ≤ 17179869184 := HLE.out V x hx hwg
            clear hrg hom2 hrep2 hwg hbd
            by_cases hlx : x < kn
            · have HNX := Lib.hid (fun W2 h1 h2 => readerNext_any (kn : Nat) R p e x a cap W2 h1 hlen h2 (by omega) (by omega) (by have := HK7.out; omega))
              go_wp2_with fail
              refine (HNX.out _ (HL.out.later (Below.now HB5.out HB.out.2)) (HRD.out.later HB.out.2)).mono ?_
              rintro e9 w10 (⟨hok, rfl, hb10⟩ | ⟨hok, rfl, hb10⟩)
              · have HOK := Lib.hid hok
                have hg10 := belowGrown hb10
                have HRG1 := Lib.hid (HRG.out.kept hg10 (by simp) (by simp))
                have HO1 : Hid (OwnM w10 b2 m2 D2) := Lib.hid (HO2.out.kept hg10 (by simp))
                have HB1 := Lib.hid (HB.out.later hb10)
                have hns : (nxtX R e x).size ≤ 8 := by have h1 := cutR_size R (e ++ letterN x); have h2 := HK7.out; have h3 : (nxtX R e x).size ≤ keepR R := h1; omega
                have hkn2 := keyOkG (nxtX R e x) (by unfold maxLen; omega)
                clear hok hb10 hg10 HNX HRG HO2 HB
                have HWO := Lib.hid (fun a ha h => WayG.old (a := a) HWG.out HOK.out ha h)
                have HWN := Lib.hid (WayG.new HWG.out HOK.out HCP.out)
                have HLK := Lib.hid (HP2.out.look (nxtX R e x))
                generalize nxtX R e x = nx at *
                go_wp2_with (first
                  | (at_lookup; refine wpList_lookup_own_int _ rfl _ _ 148 rfl 9 3 .i64 keySG Tryz.underlying148 Tryz.underlying3 (zeroIntG _) b2 m2 D2 rfl HO1.out _ _ rfl hkn2 ?k4)
                  | go_in)
                intro c0 hat0 hwc0
                rcases HLK.out with ⟨aa, haa, he1, hat1⟩ | ⟨hno, hat1⟩
                · have hc0 : c0 = (V[aa].2 : Int) := by
                    have h := (hat1 (.lit (.int .i64 0))).symm.trans hat0
                    simp only [DataW.lit.injEq, Lit.int.injEq, true_and] at h
                    exact h.symm
                  have hva : V[aa].2 ≤ 17179869184 := by
                    have h2 := wsum_take_le R kn 0 V (aa + 1)
                    rw [wsum_take _ _ _ _ haa, paths0] at h2
                    omega
                  have HV3 := Lib.hid (HWO.out aa haa he1)
                  have HP3 : Hid (RepM (D2.put (keyL nx) (.lit (.int .i64 ((V[aa].2 + cn : Nat) : Int)))) (addW V aa cn)) := Lib.hid (by rw [← he1]; exact HP2.out.old haa cn)
                  have HS3 : Hid (wsum R kn 0 (addW V aa cn) = wsum R kn 0 V + cn) := Lib.hid (by rw [wsum_add haa, paths0, Nat.mul_one])
                  subst hc0
                  clear hat0 hat1 he1 HWO HWN HLK hwc0
                  generalize addW V aa cn = V3 at *
                  generalize V[aa].2 = va at *
                  have hcc : (va : Int) + (cn : Int) = ((va + cn : Nat) : Int) := by omega
                  have HWF := Lib.hid (plainElem_int (H := Unit) Tryz.underlying3 (wf64 (show va + cn ≤ 34359738368 by omega)))
                  rw [← hcc] at HWF HP3
                  clear hcc
                  have hmx : m2 < maxLen := by unfold maxLen; omega
                  go_wp2_with (first
                    | (at_mapUpdate; (refine wpList_mapUpdate_own _ rfl _ _ _ 148 rfl 9 3 keySG Tryz.underlying148 (plainElem (H := Unit) Tryz.prog 3) b2 m2 D2 rfl HO1.out hmx _ _ _ rfl rfl hkn2 _ [] HWF.out ?_); intro w11 hown11 hgr11)
                    | go_in)
                  have HB11 : Hid (Bld 3 1 w5 w11 (.slice (some ⟨go, 0, none⟩) (i + 1) co) (i + 1) (zVals (growL R kn i))) := Lib.hid (bldMap HB1.out hgr11 (own_ne_map HB1.out.1 HO1.out) (by omega))
                  have HRG11 := Lib.hid (HRG1.out.kept hgr11 (by simp; omega) (by simp))
                  have HO11 := Lib.hid hown11
                  have hcp := HCP.out
                  clear hown11 hgr11 hmx hkn2
                  go_wp2_with fail
                  go_roundw
                  case rel => exact ⟨x + 1, m2 + 1, V3, _, by omega, by go_num, by rw [HS3.out]; go_num, HRG11.out, HO11.out, by rw [HS3.out]; omega, HP3.out, HV3.out, HB11.out⟩
                  case measure => simp [intOf]; omega
                · have hc0 : c0 = 0 := by
                    have h := (hat1 (.lit (.int .i64 0))).symm.trans hat0
                    simp only [DataW.lit.injEq, Lit.int.injEq, true_and] at h
                    exact h.symm
                  have HP3 := Lib.hid (HP2.out.new cn hno)
                  have HS3 : Hid (wsum R kn 0 (V ++ [(nx, cn)]) = wsum R kn 0 V + cn) := Lib.hid (by rw [wsum_app, wsum_one, paths0, Nat.mul_one])
                  subst hc0
                  clear hat0 hat1 hno HWO HLK hwc0
                  generalize V ++ [(nx, cn)] = V3 at *
                  have HWF := Lib.hid (plainElem_int (H := Unit) Tryz.underlying3 (wf64 (show cn ≤ 34359738368 by omega)))
                  have hmx : m2 < maxLen := by unfold maxLen; omega
                  go_wp2_with (first
                    | (at_mapUpdate; (refine wpList_mapUpdate_own _ rfl _ _ _ 148 rfl 9 3 keySG Tryz.underlying148 (plainElem (H := Unit) Tryz.prog 3) b2 m2 D2 rfl HO1.out hmx _ _ _ rfl rfl hkn2 _ [] HWF.out ?_); intro w11 hown11 hgr11)
                    | go_in)
                  have HB11 : Hid (Bld 3 1 w5 w11 (.slice (some ⟨go, 0, none⟩) (i + 1) co) (i + 1) (zVals (growL R kn i))) := Lib.hid (bldMap HB1.out hgr11 (own_ne_map HB1.out.1 HO1.out) (by omega))
                  have HRG11 := Lib.hid (HRG1.out.kept hgr11 (by simp; omega) (by simp))
                  have HO11 := Lib.hid hown11
                  have hcp := HCP.out
                  clear hown11 hgr11 hmx hkn2
                  go_wp2_with fail
                  go_roundw
                  case rel => exact ⟨x + 1, m2 + 1, V3, _, by omega, by go_num, by rw [HS3.out]; go_num, HRG11.out, HO11.out, by rw [HS3.out]; omega, HP3.out, HWN.out, HB11.out⟩
                  case measure => simp [intOf]; omega
              · have F := Lib.hid (HWG.out.no hok)
                have hg10 := belowGrown hb10
                have HRG1 := Lib.hid (HRG.out.kept hg10 (by simp) (by simp))
                have HO1 : Hid (OwnM w10 b2 m2 D2) := Lib.hid (HO2.out.kept hg10 (by simp))
                have HB1 := Lib.hid (HB.out.later hb10)
                clear hok hb10 hg10 HNX
                go_wp2_with fail
                go_roundw
                case rel => exact ⟨x + 1, m2, V, D2, by omega, by go_num, rfl, HRG1.out, HO1.out, hm2, HP2.out, F.out, HB1.out⟩
                case measure => simp [intOf]; omega
            · obtain rfl : x = kn := by omega
              have F := Lib.hid (HROW.out V HWG.out)
              go_wp2_with fail
              go_roundw
              case rel => exact ⟨lf, cnt9, m2, V, D2, rfl, HRG.out, HO2.out, hm2, HP2.out, F.out, HB.out⟩
              case measure => rw [HRG.out.left_eq, HWR.out, HLO.out]; exact hlt9
    · obtain rfl : i = nn := by omega
      have F : Hid (RetSl 3 1 (growL R kn i).length (zVals (growL R kn i)) w (.returned (.slice (some ⟨go, 0, none⟩) (i + 1) co)) wr) := Lib.hid (by
        have h := (HB.out.since HB5.out).ret
        rw [growL_len]; exact h)
      go_wp2_with fail
      go_ret
      exact F.out
end Go.Proofs.YtoddpmdjjgnpgaaGreatDoor
namespace Go.Proofs.YtoddpmdjjgnpgaaGreatDoor
open Go.RowKit
set_option linter.unusedVariables false
theorem nodup_len {α : Type} [DecidableEq α] : ∀ {l m : List α}, l.Nodup → (∀ x ∈ l, x ∈ m) → l.length ≤ m.length
  | [], m, _, _ => Nat.zero_le _
  | a :: l, m, hn, h => by
    have h1 := List.nodup_cons.1 hn
    have ha := h a List.mem_cons_self
    have ih := nodup_len (m := m.erase a) h1.2 fun x hx => by
      have : x ≠ a := fun e => by subst e; exact h1.1 hx
      exact (List.mem_erase_of_ne this).2 (h x (List.mem_cons_of_mem _ hx))
    rw [List.length_erase_of_mem ha] at ih
    have : 0 < m.length := List.length_pos_of_mem ha
    simp only [List.length_cons]
    omega
/-- the first j letters of a row without an end -/
def pre (f : Nat → Nat) (j : Nat) : Wd := (List.range j).map fun i => lt97 (f i)
def c4 (a b c d : Nat) : Nat := min (min (a * 27 + b * 9 + c * 3 + d) (b * 27 + c * 9 + d * 3 + a)) (min (c * 27 + d * 9 + a * 3 + b) (d * 27 + a * 9 + b * 3 + c))
def c3 (x y z : Nat) : Nat := if x = z then (if x = y then 1000 + x else 2000 + 10 * min x y + max x y) else if x = y then 9999 else if y = z then 9999 else 3000 + min (x * 16 + y * 4 + z) (min (y * 16 + z * 4 + x) (z * 16 + x * 4 + y))
def two (L : List Wd) : Nat := (L.filter fun r => r.length == 2).length
end Go.Proofs.YtoddpmdjjgnpgaaGreatDoor
