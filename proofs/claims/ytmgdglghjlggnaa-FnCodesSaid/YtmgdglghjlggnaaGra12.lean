/-
  The plain law of codes.
-/
import Derived.Test.YtmgdglghjlggnaaGra11
import Derived.Test.YtmgdglghjlggnaaGra06
import Derived.Test.YtmgdglghjlggnaaGra08
namespace Go.Proofs.Ytmgdglghjlggnaa
open Go.RowKit Go.Maps Go.WideMaps
set_option linter.unusedVariables false
theorem Try.infoMapT : (Try.prog.info? 51).map (fun i => (i.zero, i.size, i.bytes)) = some (some (.map none), 1, 8) := by kernel_rfl
theorem put_noneT (a : Act) (v : Value) : a.put none v = a := rfl
theorem wf60 {c : Nat} (h : c ≤ 2 ^ 60) : (Lit.int .i64 (c : Int)).wf = true := by
  have h1 : IntKind.i64.min = -9223372036854775808 := by decide
  have h2 : IntKind.i64.max = 9223372036854775807 := by decide
  simp only [Lit.wf, h1, h2, Bool.and_eq_true, decide_eq_true_eq]; omega
theorem addW_at {V : WayD} {a c : Nat} (ha : a < V.length) : (V[a].1, V[a].2 + c) ∈ addW V a c := by
  rw [addW_split ha]; simp
def mpV (Bs : List Nat) : List Value := Bs.map fun b => Value.map (some b)
theorem mpV_app (Bs : List Nat) (b : Nat) : mpV (Bs ++ [b]) = mpV Bs ++ [.map (some b)] := by simp [mpV]
/-- the maps of the lengths that are done -/
def LvsIn (l : List ByteArray) (w0 wr : World) (Bs : List Nat) : Prop := ∀ t, t < Bs.length → ∃ m D V, OwnM wr (Bs.getD t 0) m D ∧ RepM D V ∧ LevP l t V ∧ V.length ≤ 500 ∧ w0.heap.size ≤ Bs.getD t 0
theorem LvsIn.kept {l : List ByteArray} {w0 wr w' : World} {Bs : List Nat} {o : Option Nat} (h : LvsIn l w0 wr Bs) (hg : wr.grownBy w' o) (hne : ∀ t, t < Bs.length → some (Bs.getD t 0) ≠ o) : LvsIn l w0 w' Bs := fun t ht => by
  obtain ⟨m, D, V, h1, h2⟩ := h t ht
  exact ⟨m, D, V, h1.kept hg (hne t ht), h2⟩
theorem LvsIn.lt {l : List ByteArray} {w0 wr : World} {Bs : List Nat} (h : LvsIn l w0 wr Bs) : ∀ t, t < Bs.length → Bs.getD t 0 < wr.heap.size := fun t ht => by
  obtain ⟨m, D, V, h1, _⟩ := h t ht
  exact h1.lt
theorem LvsIn.later {l : List ByteArray} {w0 wr w' : World} {Bs : List Nat} (h : LvsIn l w0 wr Bs) (hb : Below wr.heap.size wr w') : LvsIn l w0 w' Bs := h.kept (belowGrown hb) (fun t _ e => by cases e)
def RetTw (l : List ByteArray) (n : Nat) (w : World) (e : Ending) (w' : World) : Prop := ∃ v two, e = .returned (.tuple #[.string v, .bool two]) ∧ (two = true → v.size ≤ n ∧ ∃ X, RdL (bwL l) v.data.toList X ∧ 2 ≤ X.length) ∧ Below w.heap.size w w'
set_option maxRecDepth 100000 in
set_option maxHeartbeats 4000000 in
theorem implTwoReadings_any (l : List ByteArray) (a : Option Addr) (cap n : Nat) (w : World) (hL : StrsIn w a l) (hl : listP l) (hcap : l.length ≤ cap) (hn : n ≤ 12) :
    Calls Try.prog 11 #[.slice a l.length cap, .int .i64 (n : Nat)] w (RetTw l n w) := by
  have hl8 := hl.1.2
  have HLP := Lib.hid hl
  have HOK : Hid (∀ W, StrsIn W a l → Calls Try.prog 7 #[.slice a l.length cap] W fun e w' => e = .returned (.bool true) ∧ Below W.heap.size W w') := Lib.hid (fun W h => (implListOk_any l a cap W h (by omega) hcap (fun j hj => by have := (hl.2 j hj).2.1.2; unfold maxLen; omega)).mono fun e w' ⟨b, hb, he, hw⟩ => ⟨by rw [he, hb.2 hl], hw⟩)
  have HWI := Lib.hid (fun W => within_any (n : Nat) 0 12 W)
  have hib : inB (n : Nat) 0 12 = true := by simp [inB]; omega
  have HL := Lib.hid hL
  have HLZ := Lib.hid (LevP.zero hl)
  rw [hib] at HWI
  have hmm := @run_makeMap Try.prog
  have hk0 := keyOkG ⟨#[]⟩ (by decide)
  clear hL hl hcap hib
  go_enter Try.func11, Try.ntmps11
  go_wp2_with fail
  refine (HOK.out _ HL.out).mono ?_
  rintro e w1 ⟨rfl, hb1⟩
  have HB1 := Lib.hid hb1
  clear hb1
  go_wp2_with fail
  refine (HWI.out _).mono ?_
  rintro e w2 ⟨rfl, hw2⟩
  replace hw2 := hw2.symm
  subst hw2
  go_wp2_with (first
    | (refine wpList_insert_ownG _ rfl _ _ _ 51 rfl 9 3 keySG Try.underlying51 (plainElem (H := Unit) Try.prog 3) w2.heap.size 0 (.map []) rfl (World.ownsMap_made _ _ _ _) (by decide) _ _ _ rfl rfl hk0 _ [] (plainElem_int Try.underlying3 (by decide)) ?_; intro w6 hown6 hgrow6))
  have HB6 : Hid (Below w2.heap.size w2 w6) := Lib.hid ((alloc_belowC w2 (.map #[] 0)).grown hgrow6 (by simp) (fun j hj => by cases hj; exact Nat.le_refl _))
  have HO6 : Hid (OwnM w6 w2.heap.size 1 (DataW.put (.map []) (keyL ⟨#[]⟩) (.lit (.int .i64 1)))) := Lib.hid hown6
  have HR6 : Hid (RepM (DataW.put (.map []) (keyL ⟨#[]⟩) (.lit (.int .i64 1))) [(⟨#[]⟩, 1)]) := Lib.hid (RepM.nil.new 1 (fun p hp => (by cases hp)))
  have h65 := HB6.out.size
  have HLV6 : Hid (LvsIn l w2 (w6.alloc (.cells #[.map (some w2.heap.size)] 51)) [w2.heap.size]) := Lib.hid (fun t ht => by
    obtain rfl : t = 0 := by simpa using ht
    exact ⟨1, _, _, HO6.out.alloc _, HR6.out, HLZ.out, by decide, Nat.le_refl _⟩)
  have HL6 : Hid (Bld 51 1 w2 (w6.alloc (.cells #[.map (some w2.heap.size)] 51)) (.slice (some ⟨w6.heap.size, 0, none⟩) 1 1) 1 (mpV [w2.heap.size])) := Lib.hid
    ⟨World.ownsRow_lit w6 (base := w2.heap.size) #[.map (some w2.heap.size)] 1 h65 (by unfold maxLen; omega) (by simp), HB6.out.alloc h65 _⟩
  clear hown6 hgrow6 hk0 HO6 HR6
  go_wp2_with fail
  go_loopw [6, 7] (fun vc vl wr => ∃ (L : Nat) (Bs : List Nat), (1 ≤ L ∧ L ≤ n + 1) ∧ vl = .int .i64 (L : Nat) ∧ Bs.length = L ∧ Hid (Bld 51 1 w2 wr vc L (mpV Bs)) ∧ Hid (LvsIn l w2 wr Bs)) (fun _ vl _ => n + 1 - (intOf vl).toNat)
  case atStart => exact ⟨1, [w2.heap.size], ⟨Nat.le_refl _, by omega⟩, rfl, rfl, HL6, HLV6⟩
  case round =>
    clear HL6 HLV6 HB6 h65
    obtain ⟨L, Bs, ⟨hL1, hLn⟩, rfl, hBl, HC, HLV⟩ := hrel
    by_cases hlt : L ≤ n
    · have hlt1 : (L : Int) ≤ (n : Int) := by omega
      have HC7 := Lib.hid (HC.out.later (alloc_belowC wr (.map #[] 0)))
      have HLV7 := Lib.hid (HLV.out.later (alloc_belowC wr (.map #[] 0)))
      have HO7 : Hid (OwnM (wr.alloc (.map #[] 0)) wr.heap.size 0 (.map [])) := Lib.hid (World.ownsMap_made _ _ _ _)
      have HBLT := Lib.hid HLV.out.lt
      have hw2b : w2.heap.size ≤ wr.heap.size := HC.out.2.size
      go_upto_region 8 with fail
      generalize wr.alloc (.map #[] 0) = w8 at *
      obtain ⟨b2, hb2⟩ : ∃ b2, wr.heap.size = b2 := ⟨_, rfl⟩
      have HB2E := Lib.hid hb2
      rw [hb2] at HO7 HBLT hw2b
      rw [hb2]
      clear hb2 HC HLV
      generalize hW : wr = wr0 at *
      have HWE := Lib.hid hW
      clear hW
      go_wp2_with fail
      go_loopw [34] (fun vi wr => ∃ (i m2 : Nat) (D2 : DataW Unit) (V2 : WayD), i ≤ l.length ∧ vi = .int .i64 (i : Nat) ∧ Hid (OwnM wr b2 m2 D2) ∧ m2 ≤ 500 * i ∧ Hid (RepM D2 V2) ∧ Hid (PartP l (fun _ => False) i L V2) ∧ Hid (Bld 51 1 w2 wr u6 L (mpV Bs)) ∧ Hid (LvsIn l w2 wr Bs)) (fun vi _ => l.length - (intOf vi).toNat)
      case atStart => exact ⟨0, 0, .map [], [], Nat.zero_le _, rfl, HO7, Nat.zero_le _, Lib.hid RepM.nil, Lib.hid PartP.start, HC7, HLV7⟩
      case round =>
        clear HO7 HC7 HLV7
        obtain ⟨i, m2, D2, V2, hi, rfl, HO, hm2, HRP, HPT, HC, HLV⟩ := hrel
        by_cases hil : i < l.length
        · obtain ⟨bl, off, rfl, _, hc⟩ := (HL.out.later (Below.now HB1.out HC.out.2)).cell hil
          have hci := hc i hil
          have hx6 := (HLP.out.2 i hil).2.1
          clear hc
          by_cases hxl : (nthS l i).size ≤ L
          · have hxl1 : ¬ (L : Int) < ((nthS l i).size : Int) := by omega
            obtain ⟨t, ht⟩ : ∃ t, L - (nthS l i).size = t := ⟨_, rfl⟩
            have htL : t < L := by omega
            obtain ⟨m, D, W, hom, hrp, hlv, hwl, hbg⟩ := HLV.out t (by omega)
            have hbt := HBLT.out t (by omega)
            obtain ⟨gc, cc, rfl⟩ := owns_slot HC.out.1 (by omega)
            have hct : wr.cell? ⟨gc, t, none⟩ = some (.map (some (Bs.getD t 0))) := by
              rw [HC.out.1.cellAt t (by omega)]
              simp [mpV, List.getD_eq_getElem?_getD, show t < Bs.length by omega]
            have hsub : ((L : Nat) : Int) - ((nthS l i).size : Int) = (t : Int) := by omega
            have hwr2 : IntKind.i64.wrap (t : Int) = (t : Int) := IntWalk.i64_in _ ⟨by omega, by omega⟩
            have htL1 : (t : Int) < (L : Int) := by omega
            have HOM := Lib.hid hom
            have HRW := Lib.hid hrp
            have HLW := Lib.hid hlv
            have HTE := Lib.hid ht
            have hszD := hrp.size
            have HBLT2 : Hid (∀ t, t < Bs.length → Bs.getD t 0 < b2) := Lib.hid (fun t h => HBLT.out t h)
            generalize Bs.getD t 0 = b at *
            obtain ⟨x, hx⟩ : ∃ x, nthS l i = x := ⟨_, rfl⟩
            have HXE := Lib.hid hx
            rw [hx] at hci hx6 hxl hxl1 hsub
            clear hom hrp hlv ht hx
            go_wp2_with (first
              | (at_range; refine wpList_range_own _ rfl _ 51 rfl 9 3 keySG Try.underlying51 _ b m _ rfl HOM.out ?_; intro w9 hrg9 hg9 hs9))
            rw [hszD] at hrg9
            have HRG9 := Lib.hid hrg9
            have HO9 := Lib.hid (HO.out.kept hg9 (by simp))
            have HC9 : Hid (Bld 51 1 w2 w9 (.slice (some ⟨gc, 0, none⟩) L cc) L (mpV Bs)) := Lib.hid (keptB HC.out hg9 (fun k hk e => (by cases e)) (fun k hk => (by cases hk)))
            have HLV9 := Lib.hid (HLV.out.kept hg9 (fun t _ e => by cases e))
            have hb2r : b2 < wr.heap.size := HO.out.lt
            have HPO := Lib.hid (HPT.out.open_ (left := Maps.has D) (W := W))
            obtain ⟨it, hit⟩ : ∃ it, wr.heap.size = it := ⟨_, rfl⟩
            rw [hit] at HRG9 hb2r
            rw [hit]
            have HITE := Lib.hid hit
            clear hrg9 hg9 hs9 HO HC HLV HPT hit
            generalize hW : wr = wr1 at *
            have HWR1 := Lib.hid hW
            clear hW
            go_loopw [11] (fun _ wr => ∃ (left : Lit → Bool) (cnt m2 : Nat) (D2 : DataW Unit) (V2 : WayD), Hid (wr.ranges Try.prog 9 (plainElem (H := Unit) Try.prog 3) b it m D left cnt) ∧ Hid (OwnM wr b2 m2 D2) ∧ m2 + cnt ≤ 500 * i + 500 ∧ Hid (RepM D2 V2) ∧ Hid (PartP l (seenW left W) i L V2) ∧ Hid (Bld 51 1 w2 wr (.slice (some ⟨gc, 0, none⟩) L cc) L (mpV Bs)) ∧ Hid (LvsIn l w2 wr Bs)) (fun _ wr => wr.rangeLeft b it)
            case atStart => exact ⟨_, _, m2, D2, V2, HRG9, HO9, by omega, HRP, HPO, HC9, HLV9⟩
            case round =>
              clear HRG9 HO9 HPO HC9 HLV9 HRP hm2
              obtain ⟨left, cnt, m2, D2, V2, HRG, HO, hm2, HRP, HPT, HC, HLV⟩ := hrel
              go_wp2_with (first
                | (at_next; refine wpList_next_ranges _ rfl _ rfl 9 keySG (plainElem (H := Unit) Try.prog 3) Value.string (Value.int .i64) invKG invVG b it m _ _ _ rfl HRG.out ?_ ?_))
              · intro hc0 hl0
                have HPS := Lib.hid HPT.out.shut
                clear hl0
                go_wp2_with fail
                go_roundw
                case rel => exact ⟨i + 1, m2, D2, V2, by omega, by go_num, HO, by omega, HRP, HPS, HC, HLV⟩
                case measure => simp [intOf]; omega
              · intro x1 c kl yd yp w9 cnt9 hkey hlk hv hat hrg9 hlt9 hg9 hs9 hen
                obtain ⟨s', hs', hkl, _⟩ := string_of_keyOf Try.underlying9 hkey
                cases hs'
                obtain ⟨c', hc', hy, _⟩ := plainElem_int_inv Try.underlying3 hv
                cases hc'
                cases hy
                subst hkl
                obtain ⟨j, hj, hje, hjc⟩ : ∃ j, ∃ hj : j < W.length, W[j].1 = x1 ∧ (W[j].2 : Int) = c := by
                  rcases HRW.out.look x1 with ⟨j, hj, h1, h2⟩ | ⟨h1, h2⟩
                  · have h3 := (h2 (.lit (.bool true))).symm.trans (hat (.lit (.bool true)))
                    simp only [DataW.lit.injEq, Lit.int.injEq, true_and] at h3
                    exact ⟨j, hj, h1, h3⟩
                  · have h3 := (h2 (.lit (.bool true))).symm.trans (hat (.lit (.bool true)))
                    simp at h3
                subst hje hjc
                have hmem := List.getElem_mem hj
                obtain ⟨hsz, X, hX, hcX⟩ := HLW.out _ hmem
                have HX := Lib.hid hX
                have HONE := Lib.hid (fun a (ha : a < V2.length) (he : V2[a].1 = W[j].1 ++ nthS l i) => HPT.out.old hil hmem hlk hX hcX ha he)
                have HNEW := Lib.hid (fun (hs : (W[j].1 ++ nthS l i).size = L) => HPT.out.new hil hmem hlk hX hcX hs)
                have hctop := LevP.top HLP.out HLW.out (by omega) hmem
                have HTOP := Lib.hid (fun V (h : PartP l (seenW (fun z => left z && !z.sameKey (keyL W[j].1)) W) i L V) => fun p hp => PartP.top HLP.out h (by omega) (p := p) hp)
                have HRG9 : Hid (w9.ranges Try.prog 9 (plainElem (H := Unit) Try.prog 3) b it m D (fun z => left z && !z.sameKey (keyL W[j].1)) cnt9) := Lib.hid hrg9
                have HO9 := Lib.hid (HO.out.kept hg9 (by simp; omega))
                have HC9 := Lib.hid (bldMap HC.out hg9 (own_ne_iter HC.out.1 HRG.out) (by omega))
                have HLV9 := Lib.hid (HLV.out.kept hg9 (fun t h e => by have := HBLT2.out t h; have := Option.some.inj e; omega))
                have HLO := Lib.hid HRG.out.left_eq
                have HLT9 := Lib.hid hlt9
                clear hrg9 hat hlk hkey hv hg9 hs9 HO HC HLV HRG HPT hX hcX hmem
                rw [HXE.out] at HONE HNEW
                generalize (fun z => left z && !z.sameKey (keyL W[j].1)) = lf at *
                generalize W[j].1 = e at *
                generalize W[j].2 = cn at *
                have hes : ¬ 9223372036854775807 < e.size + x.size := by omega
                have hexs : (e ++ x).size = L := by rw [ByteArray.size_append]; omega
                have HNEW2 := Lib.hid (HNEW.out hexs)
                have hkn2 := keyOkG (e ++ x) (by rw [hexs]; unfold maxLen; omega)
                have HLK := Lib.hid (HRP.out.look (e ++ x))
                clear HNEW
                go_wp2_with (first
                  | (at_lookup; refine wpList_lookup_own_int _ rfl _ _ 51 rfl 9 3 .i64 keySG Try.underlying51 Try.underlying3 (zeroIntG _) b2 m2 D2 rfl HO9.out _ _ rfl hkn2 ?k4))
                intro c0 hat0 hwc0
                rcases HLK.out with ⟨aa, haa, he1, hat1⟩ | ⟨hno, hat1⟩
                · have hc0 : c0 = (V2[aa].2 : Int) := by
                    have h := (hat1 (.lit (.int .i64 0))).symm.trans hat0
                    simp only [DataW.lit.injEq, Lit.int.injEq, true_and] at h
                    exact h.symm
                  have HV3 := Lib.hid (HONE.out aa haa he1)
                  have hva := HTOP.out _ HV3.out _ (addW_at haa)
                  have HP3 : Hid (RepM (D2.put (keyL (e ++ x)) (.lit (.int .i64 ((V2[aa].2 + cn : Nat) : Int)))) (addW V2 aa cn)) := Lib.hid (by rw [← he1]; exact HRP.out.old haa cn)
                  subst hc0
                  clear hat0 hat1 he1 HONE HNEW2 HLK hwc0 HTOP
                  have hva2 : V2[aa].2 + cn ≤ 9 ^ 12 := hva
                  clear hva
                  generalize addW V2 aa cn = V3 at *
                  generalize V2[aa].2 = va at *
                  obtain ⟨k, hk⟩ : ∃ k, va + cn = k := ⟨_, rfl⟩
                  rw [hk] at HP3 hva2
                  have hcc : (va : Int) + (cn : Int) = (k : Int) := by omega
                  have h912a : (9 : Nat) ^ 12 ≤ 2 ^ 50 := by decide
                  have hwrk : IntKind.i64.wrap (k : Int) = (k : Int) := IntWalk.i64_in _ ⟨by omega, by omega⟩
                  clear hk
                  have h912 : (9 : Nat) ^ 12 ≤ 2 ^ 50 := by decide
                  have HWF := Lib.hid (plainElem_int (H := Unit) Try.underlying3 (wf60 (show k ≤ 2 ^ 60 by omega)))
                  have hmx : m2 < maxLen := by unfold maxLen; omega
                  skip
                  go_wp2_with (first
                    | (at_mapUpdate; (refine wpList_mapUpdate_own _ rfl _ _ _ 51 rfl 9 3 keySG Try.underlying51 (plainElem (H := Unit) Try.prog 3) b2 m2 D2 rfl HO9.out hmx _ _ _ rfl rfl hkn2 _ [] HWF.out ?_); intro w11 hown11 hgr11))
                  have HC11 := Lib.hid (bldMap HC9.out hgr11 (own_ne_map HC9.out.1 HO9.out) (by omega))
                  have HRG11 := Lib.hid (HRG9.out.kept hgr11 (by simp; omega) (by simp; omega))
                  have HLV11 := Lib.hid (HLV9.out.kept hgr11 (fun t h e => by have := HBLT2.out t h; have := Option.some.inj e; omega))
                  have HO11 := Lib.hid hown11
                  clear hown11 hgr11 hmx hkn2
                  try simp only [put_noneT]
                  go_wp2_with fail
                  go_roundw
                  case rel => exact ⟨lf, cnt9, m2 + 1, _, _, HRG11, HO11, by have := HLT9.out; omega, HP3, HV3, HC11, HLV11⟩
                  case measure => rw [HRG11.out.left_eq, HLO.out]; exact HLT9.out
                · have hc0 : c0 = 0 := by
                    have h := (hat1 (.lit (.int .i64 0))).symm.trans hat0
                    simp only [DataW.lit.injEq, Lit.int.injEq, true_and] at h
                    exact h.symm
                  have HP3 := Lib.hid (HRP.out.new cn hno)
                  have HV3 := HNEW2
                  subst hc0
                  clear hat0 hat1 hno HONE HLK hwc0 HTOP
                  generalize V2 ++ [(e ++ x, cn)] = V3 at *
                  have h912 : (9 : Nat) ^ 12 ≤ 2 ^ 50 := by decide
                  have HWF := Lib.hid (plainElem_int (H := Unit) Try.underlying3 (wf60 (show cn ≤ 2 ^ 60 by omega)))
                  have hmx : m2 < maxLen := by unfold maxLen; omega
                  have hz0 : (0 : Int) + (cn : Int) = (cn : Int) := by omega
                  go_wp2_with (first
                    | (at_mapUpdate; (refine wpList_mapUpdate_own _ rfl _ _ _ 51 rfl 9 3 keySG Try.underlying51 (plainElem (H := Unit) Try.prog 3) b2 m2 D2 rfl HO9.out hmx _ _ _ rfl rfl hkn2 _ [] HWF.out ?_); intro w11 hown11 hgr11))
                  have HC11 := Lib.hid (bldMap HC9.out hgr11 (own_ne_map HC9.out.1 HO9.out) (by omega))
                  have HRG11 := Lib.hid (HRG9.out.kept hgr11 (by simp; omega) (by simp; omega))
                  have HLV11 := Lib.hid (HLV9.out.kept hgr11 (fun t h e => by have := HBLT2.out t h; have := Option.some.inj e; omega))
                  have HO11 := Lib.hid hown11
                  clear hown11 hgr11 hmx hkn2
                  try simp only [put_noneT]
                  go_wp2_with fail
                  go_roundw
                  case rel => exact ⟨lf, cnt9, m2 + 1, _, _, HRG11, HO11, by have := HLT9.out; omega, HP3, HV3, HC11, HLV11⟩
                  case measure => rw [HRG11.out.left_eq, HLO.out]; exact HLT9.out
          · have hxl1 : (L : Int) < ((nthS l i).size : Int) := by omega
            generalize nthS l i = x at *
            have HPN := Lib.hid HPT.out.none
            go_wp2_with fail
            go_roundw
            case rel => exact ⟨i + 1, m2, D2, V2, by omega, by go_num, HO, by omega, HRP, HPN, HC, HLV⟩
            case measure => simp [intOf]; omega
        · obtain rfl : i = l.length := by omega
          have HLD := Lib.hid (HPT.out.done HLP.out)
          have hszV : V2.length ≤ m2 := by rw [← HRP.out.size]; exact HO.out.size_le
          have hvb : V2.length ≤ 2 ^ 40 := by omega
          go_wp2_with fail
          refine (keysK_any _ _).mono ?_
          rintro e w11 ⟨rfl, rfl⟩
          have HK := Lib.hid (sortedK_any b2 m2 D2 V2 wr HO.out HRP.out hvb)
          have HB11 : Hid (Below wr.heap.size wr (wr.alloc (.cells #[.map (some b2)] 51))) := Lib.hid (alloc_belowC wr _)
          go_wp2_with fail
          refine HK.out.mono ?_
          rintro e w12 ⟨a12, c12, ks, rfl, hkl, hks, hKS, hb12⟩
          have HB12 := Lib.hid (Below.now HB11.out hb12)
          have HO12 := Lib.hid (HO.out.kept (belowGrown HB12.out) (by simp))
          have HC12 := Lib.hid (HC.out.later HB12.out)
          have HLV12 := Lib.hid (HLV.out.later HB12.out)
          have HKS := Lib.hid hKS
          have HKM := Lib.hid hks
          have hkn : ks.length ≤ 2 ^ 40 := by omega
          clear HK HB11 hb12 hKS hks HO HC HLV HPT
          go_wp2_with fail
          go_loopw [67] (fun vi wr => ∃ i : Nat, i ≤ ks.length ∧ vi = .int .i64 (i : Nat) ∧ wr = w12) (fun vi _ => ks.length - (intOf vi).toNat)
          case atStart => exact ⟨0, Nat.zero_le _, rfl, rfl⟩
          case round =>
            obtain ⟨i, hi, rfl, rfl⟩ := hrel
            by_cases hil : i < ks.length
            · obtain ⟨bl2, off2, rfl, _, hc2⟩ := HKS.out.cell hil
              have hci2 := hc2 i hil
              obtain ⟨p, hpV, hpk⟩ := HKM.out _ (nthS_mem hil)
              clear hc2
              obtain ⟨j, hj, hje⟩ := List.getElem_of_mem hpV
              have hLW := HLD.out _ hpV
              have hkn2 := keyOkG (nthS ks i) (by rw [← hpk, hLW.1]; unfold maxLen; omega)
              have HLK := Lib.hid (HRP.out.look (nthS ks i))
              generalize nthS ks i = x at *
              obtain ⟨c0, hrun0, hat0, hwc0⟩ := HO12.out.lookup_int keySG Try.underlying51 Try.underlying3 (zeroIntG _) hkn2
              rcases HLK.out with ⟨aa, haa, he1, hat1⟩ | ⟨hno, hat1⟩
              · have hc0 : c0 = (V2[aa].2 : Int) := by
                  have h := (hat1 (.lit (.int .i64 0))).symm.trans hat0
                  simp only [DataW.lit.injEq, Lit.int.injEq, true_and] at h
                  exact h.symm
                subst hc0
                obtain ⟨hsz, X, hX, hcX⟩ := HLD.out _ (List.getElem_mem haa)
                rw [he1] at hsz hX
                by_cases h2 : 2 ≤ V2[aa].2
                · have h2i : (2 : Int) ≤ (V2[aa].2 : Int) := by omega
                  have F : Hid (RetTw l n w (.returned (.tuple #[.string x, .bool true])) wr) := Lib.hid ⟨_, true, rfl, fun _ => ⟨by omega, X, hX, by omega⟩, Below.now HB1.out HC12.out.2⟩
                  clear hat0 hat1
                  generalize V2[aa].2 = cv at *
                  go_wp2_with fail
                  refine bodyPost_ret (v := .tuple #[.string x, .bool true]) ?_ rfl F.out
                  simp [results, Try.results11, go_sem]
                · have h2i : ¬ (2 : Int) ≤ (V2[aa].2 : Int) := by omega
                  clear hat0 hat1
                  generalize V2[aa].2 = cv at *
                  go_wp2_with fail
                  go_roundw
                  case rel => exact ⟨i + 1, by omega, by go_num, trivial⟩
                  case measure => simp [intOf]; omega
              · exact absurd hpk (hno _ hpV)
            · obtain rfl : i = ks.length := by omega
              have hlen := HO12.out.len Try.underlying51 3
              rw [HRP.out.size] at hlen
              by_cases h5 : 500 < V2.length
              · have h5i : (500 : Int) < (V2.length : Int) := by omega
                have F : Hid (RetTw l n w (.returned (.tuple #[.string ⟨#[]⟩, .bool false])) wr) := Lib.hid ⟨_, false, rfl, fun h => (by cases h), Below.now HB1.out HC12.out.2⟩
                go_wp2_with fail
                refine bodyPost_ret (v := .tuple #[.string ⟨#[]⟩, .bool false]) ?_ rfl F.out
                simp [results, Try.results11, go_sem]
              · have h5i : ¬ (500 : Int) < (V2.length : Int) := by omega
                have HB13 : Hid (Below wr.heap.size wr (wr.alloc (.cells #[.map (some b2)] 51))) := Lib.hid (alloc_belowC wr _)
                have HC13 := Lib.hid (HC12.out.later HB13.out)
                have HLV13 := Lib.hid (HLV12.out.later HB13.out)
                have HO13 := Lib.hid (HO12.out.kept (belowGrown HB13.out) (by simp))
                have HN1 : Hid (∀ u ∈ [Value.map (some b2)], u.oneCell' = true) := Lib.hid (by simp [Value.oneCell'])
                have HN2 : Hid (L + 1 ≤ maxLen) := Lib.hid (by unfold maxLen; omega)
                have hbb : b2 < w2.heap.size → False := fun h => by omega
                clear HC12 HLV12 HO12
                go_wp2_with (at_builtin; refine wpList_appM rfl _ _ rfl Try.underlying52 Try.infoMapT rfl (by decide) rfl HC13.out rfl (Src.lit [.map (some b2)]) rfl HN1.out HN2.out (by omega) ?a4)
                intro v14 w14 hb14 hg14 ho14
                rw [← mpV_app] at hb14
                have HLV14 : Hid (LvsIn l w2 w14 (Bs ++ [b2])) := Lib.hid (fun t ht => by
                  rcases Nat.lt_or_ge t Bs.length with h | h
                  · obtain ⟨m, D, V, h1, h2⟩ := (HLV13.out.kept hg14 (fun t h e => own_ne_map HC13.out.1 (HLV13.out t h).choose_spec.choose_spec.choose_spec.1 e)) t h
                    rw [show (Bs ++ [b2]).getD t 0 = Bs.getD t 0 by simp [List.getD_eq_getElem?_getD, List.getElem?_append_left h]]
                    exact ⟨m, D, V, h1, h2⟩
                  · have : t = Bs.length := by simp at ht; omega
                    subst this
                    rw [show (Bs ++ [b2]).getD Bs.length 0 = b2 by simp [List.getD_eq_getElem?_getD]]
                    exact ⟨m2, D2, V2, HO13.out.kept hg14 (own_ne_map HC13.out.1 HO13.out), HRP.out, hBl ▸ HLD.out, by omega, by omega⟩)
                have HC14 := Lib.hid hb14
                clear hb14 hg14 ho14 HC13 HLV13 HO13
                go_wp2_with fail
                go_roundw
                case rel => exact ⟨L + 1, Bs ++ [b2], ⟨by omega, by omega⟩, by go_num, by simp [hBl], HC14, HLV14⟩
                case measure => simp [intOf]; omega
    · have hlt1 : ¬ (L : Int) ≤ (n : Int) := by omega
      have F : Hid (RetTw l n w (.returned (.tuple #[.string ⟨#[]⟩, .bool false])) wr) := Lib.hid ⟨_, false, rfl, fun h => (by cases h), Below.now HB1.out HC.out.2⟩
      go_wp2_with fail
      refine bodyPost_ret (v := .tuple #[.string ⟨#[]⟩, .bool false]) ?_ rfl F.out
      simp [results, Try.results11, go_sem]
end Go.Proofs.Ytmgdglghjlggnaa
namespace Go.Proofs.Ytmgdglghjlggnaa
open Go.RowKit
set_option linter.unusedVariables false
theorem bwL_nodup {l : List ByteArray} (h : l.Nodup) : (bwL l).Nodup := List.Pairwise.map (fun b : ByteArray => b.data.toList) (fun a b hne e => hne (ba_inj e)) h
theorem ud_one {L : List Bw} (hu : UD L) (hn : L.Nodup) {s : Bw} {X : List (List Nat)} (hX : RdL L s X) : X.length ≤ 1 := by
  have key : ∀ xs ys, SqL L s xs → SqL L s ys → xs = ys := fun xs ys h1 h2 => by
    have e := hu (xs.map fun i => L.getD i []) (ys.map fun i => L.getD i []) (fun x hx => by
      obtain ⟨i, hi, rfl⟩ := List.mem_map.1 hx
      have := h1.1 i hi
      simp [List.getD_eq_getElem?_getD, this]) (fun x hx => by
      obtain ⟨i, hi, rfl⟩ := List.mem_map.1 hx
      have := h2.1 i hi
      simp [List.getD_eq_getElem?_getD, this]) (h1.2.trans h2.2.symm)
    have hl : xs.length = ys.length := by have := congrArg List.length e; simpa using this
    refine List.ext_getElem hl fun i hi hj => ?_
    have hi1 := h1.1 xs[i] (List.getElem_mem hi)
    have hj1 := h2.1 ys[i] (List.getElem_mem hj)
    have e2 : (xs.map fun i => L.getD i [])[i]'(by simpa using hi) = (ys.map fun i => L.getD i [])[i]'(by simpa using hj) := by
      simp only [e]
    simp only [List.getElem_map, List.getD_eq_getElem?_getD, List.getElem?_eq_getElem hi1, List.getElem?_eq_getElem hj1, Option.getD_some] at e2
    exact (List.getElem_inj hn).1 e2
  rcases X with _ | ⟨x, _ | ⟨y, X⟩⟩
  · simp
  · simp
  · exfalso
    have h1 := (hX.2 x).1 (by simp)
    have h2 := (hX.2 y).1 (by simp)
    have := key x y h1 h2
    have hnd := hX.1
    rw [this] at hnd
    simp at hnd
theorem sq_let {l : List ByteArray} (hab : ∀ r ∈ l, abW r) {s : Bw} {xs : List Nat} (h : SqL (bwL l) s xs) : ∀ x ∈ s, letB 2 x = true := by
  obtain ⟨h1, rfl⟩ := h
  intro x hx
  obtain ⟨v, hv, hx⟩ := List.mem_flatten.1 hx
  obtain ⟨i, hi, rfl⟩ := List.mem_map.1 hv
  have hi1 := h1 i hi
  have hm : (bwL l).getD i [] ∈ bwL l := by simp [List.getD_eq_getElem?_getD, hi1]
  obtain ⟨b, hb, e⟩ := List.mem_map.1 hm
  rw [← e] at hx
  exact List.all_eq_true.1 (hab b hb).1 x hx
theorem let_two {x : UInt8} (h : letB 2 x = true) : x = 97 ∨ x = 98 := by
  have := letB_true h
  rcases Nat.lt_or_ge x.toNat 98 with h1 | h1
  · exact .inl (UInt8.toNat_inj.1 (by show x.toNat = 97; omega))
  · exact .inr (UInt8.toNat_inj.1 (by show x.toNat = 98; omega))
theorem let_four {x : UInt8} (h : letB 2 x = true) : letB 4 x = true := by
  rcases let_two h with rfl | rfl <;> decide
theorem sq_ok {l : List ByteArray} (hab : ∀ r ∈ l, abW r) {s : ByteArray} {xs : List Nat} (h : SqL (bwL l) s.data.toList xs) (hs : s.size ≤ 16) : wordOkB 4 s = true := by
  unfold wordOkB allB
  simp only [Bool.and_eq_true, decide_eq_true_eq, List.all_eq_true]
  exact ⟨by decide, hs, fun x hx => let_four (sq_let hab h x hx)⟩
theorem kr_le {l : List ByteArray} (hn : l.Nodup) (hab : ∀ r ∈ l, abW r) (hu : udP l) : krS 6 (bwL l) ≤ 64 := by
  refine mcmillan (a := 97) (b := 98) (by decide) (bwL_nodup hn) hu.2 fun v hv => ?_
  obtain ⟨b, hb, rfl⟩ := List.mem_map.1 hv
  have h := hab b hb
  refine ⟨?_, fun x hx => let_two (List.all_eq_true.1 h.1 x hx)⟩
  have : b.data.toList.length = b.size := rfl
  rw [this]
  exact Nat.le_trans h.2.2 (by decide)
theorem cl_ne {l : List ByteArray} (h : listP l) : codeLine l ≠ ⟨#[110, 111, 110, 101]⟩ := by
  intro e2
  unfold codeLine at e2
  rw [if_pos h] at e2
  split at e2
  · have h1 := congrArg (fun b : ByteArray => b.data.toList[0]?) e2
    revert h1
    split <;> simp [ByteArray.data_append, Array.toList_append]
  · have h1 := congrArg (fun b : ByteArray => b.data.toList.length) e2
    revert h1
    decide
theorem sumW {l : List ByteArray} (hab : ∀ r ∈ l, abW r) : strSum l ≤ 5 * l.length := by
  induction l with
  | nil => exact Nat.le_of_eq rfl
  | cons x l ih =>
    have h1 := ih (fun r hr => hab r (List.mem_cons_of_mem _ hr))
    have h2 := (hab x (by simp)).2.2
    simp only [strSum, List.length_cons, List.map_cons, List.sum_cons] at *
    omega
end Go.Proofs.Ytmgdglghjlggnaa
