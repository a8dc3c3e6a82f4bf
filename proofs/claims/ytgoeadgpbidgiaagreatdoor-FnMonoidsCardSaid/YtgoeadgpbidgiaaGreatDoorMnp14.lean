/-
  The reduced words of a length, by the program.
-/
import Derived.Test.YtgoeadgpbidgiaaGreatDoorMnp13
import Derived.Test.YtgoeadgpbidgiaaGreatDoorMnp07
import Derived.Deep.RegionHeld3
import Derived.Maps.OwnOps
import Derived.Deep.DeepCutAuto
import Derived.Test.YtgoeadgpbidgiaaGreatDoorMnp09
namespace Go.Proofs.YtgoeadgpbidgiaaGreatDoor
open Go.RowKit Go.Maps
set_option linter.unusedVariables false
theorem plainB_inv {P : Program} {e : TypeId} (he : P.underlying e = some .bool) {v : Value} {d : DataW Unit} {ps : List MemPlace} (h : plainElem (H := Unit) P e v = some (d, ps)) : ∃ c, v = .bool c ∧ d = .lit (.bool c) := by
  unfold plainElem at h
  rw [he] at h
  cases v <;> simp at h
  exact ⟨_, rfl, h.1.symm⟩
theorem plainBool_inv {v : Value} {d : DataW Unit} {ps : List MemPlace} (h : plainElem (H := Unit) Tryz.prog 4 v = some (d, ps)) : ∃ c, v = .bool c ∧ d = .lit (.bool c) := plainB_inv Tryz.underlying4 h
/-- Go's > at strings -/
theorem gt_less : ∀ (a b : Wd), (!Op.bytesLess a b && !(a == b)) = Op.bytesLess b a
  | [], [] => rfl
  | [], b :: bs => by simp [Op.bytesLess]
  | a :: aa, [] => by simp [Op.bytesLess]
  | a :: aa, b :: bs => by
    have ih := gt_less aa bs
    rcases Nat.lt_trichotomy a.toNat b.toNat with h | h | h
    · have h1 : a < b := UInt8.lt_iff_toNat_lt.2 h
      rw [less_head h1, less_head_no h1]; rfl
    · have h1 : a = b := UInt8.toNat_inj.1 h
      subst h1
      have h2 : ¬ a < a := UInt8.lt_irrefl a
      simp only [Op.bytesLess, decide_eq_false h2, Bool.false_or, beq_self_eq_true, Bool.true_and, List.cons_beq_cons]
      exact ih
    · have h1 : b < a := UInt8.lt_iff_toNat_lt.2 h
      have h2 : (a == b) = false := by
        rw [beq_eq_false_iff_ne]
        intro e
        subst e
        exact UInt8.lt_irrefl _ h1
      rw [less_head h1, less_head_no h1]
      simp [h2]
theorem zeroBoolG (w : World) : (zeroValue 4).run Tryz.prog w = .ok (.bool false) w := by kernel_rfl
/-- a look-up among the dead ends -/
theorem lookBool {w : World} {b n : Nat} {D : DataW Unit} (h : OwnD w b n D) {key : Value} {kl : Lit} (hkey : keyOf Tryz.prog 185 key = some kl) {c : Bool} (hc : D.atKey kl (.lit (.bool false)) = .lit (.bool c)) : (Instr.lookup 128 (.map (some b)) key false).run Tryz.prog w = .ok (.bool c) w := by
  obtain ⟨v, ps, hrun, hv⟩ := h.lookup keyed2 Tryz.underlying128 (zeroBoolG w) (plainElem_bool Tryz.underlying4 false) hkey
  rw [hc] at hv
  obtain ⟨c', rfl, h2⟩ := plainBool_inv hv
  have h3 : c = c' := by simpa using h2
  rw [h3]; exact hrun
theorem ownD_tight {w : World} {b m : Nat} {D : DataW Unit} (h : OwnD w b m D) : OwnD w b (Maps.size D) D := by
  obtain ⟨es, clock, h1, h2, h3, rfl⟩ := h
  exact ⟨es, clock, h1, h2, by rw [Maps.size_eq, length_sorted, List.length_map, Array.length_toList]; exact Nat.le_refl _, rfl⟩
theorem Tab10.grown {w w' : World} {b : Nat} (h : Tab10 w) (hg : w.grownBy w' (some b)) (hne : 1 ≠ b) : Tab10 w' := by
  have hg2 : Tryz.prog.globalNamed "internal/strconv.uint64pow10" = some 1 := by kernel_rfl
  unfold Tab10 Lib.TabIs World.var? at h ⊢
  rw [hg2] at h ⊢
  simp only [Option.bind_some] at h ⊢
  have hlt : 1 < w.heap.size := by
    rcases Nat.lt_or_ge 1 w.heap.size with h' | h'
    · exact h'
    · rw [Array.getElem?_eq_none h'] at h; simp at h
  rw [hg.block _ hlt (by simpa using hne)]
  exact h
/-- the memory that firstAbove reads -/
structure EnvF (W : World) (b p : Nat) (k : Int) (a : Option Addr) (cap : Nat) (R : List RulD) : Prop where
  rd : RdAt W p k a R.length cap (keepR R)
  mp : W.cell? ⟨p, 3, none⟩ = some (.map (some b))
  rules : RulesIn W a R
  tab : Tab10 W
  ne : (p ≠ b ∧ 1 ≠ b) ∧ (R = [] ∨ ∀ x, a = some x → x.block ≠ b)
theorem EnvF.grown {W W' : World} {b p : Nat} {k : Int} {a : Option Addr} {cap : Nat} {R : List RulD} (h : EnvF W b p k a cap R) (hg : W.grownBy W' (some b)) : EnvF W' b p k a cap R := by
  obtain ⟨⟨n1, n2⟩, n5⟩ := h.ne
  obtain ⟨r1, r2, r3⟩ := h.rd
  refine ⟨⟨hg.cell r1 (by simpa using n1), hg.cell r2 (by simpa using n1), hg.cell r3 (by simpa using n1)⟩, hg.cell h.mp (by simpa using n1), ?_, h.tab.grown hg n2, h.ne⟩
  rcases n5 with rfl | n5
  · exact .inl rfl
  · exact CellsIn.grownC h.rules hg (fun x hx e => n5 x hx (Option.some.inj e))
/-- the map of dead ends -/
def DeadAt (R : List RulD) (k b : Nat) (W : World) : Prop := ∃ m D, OwnD W b m D ∧ DMap R k D
theorem DeadAt.kept {R : List RulD} {k b : Nat} {W W' : World} (h : DeadAt R k b W) (hg : W.grownBy W' none) : DeadAt R k b W' := by
  obtain ⟨m, D, h1, h2⟩ := h
  exact ⟨m, D, h1.kept hg (by simp), h2⟩
/-- a dead end more -/
theorem DeadAt.store {R : List RulD} {k b : Nat} {W : World} (h : DeadAt R k b W) {e : ByteArray} {d : Nat} (he : EndP k e) (hd : d ≤ 300) (hp : paths R k d e = 0) (hk : k ≤ 4) (hkey : keyOf Tryz.prog 185 (.agg #[.string e, .string (numB (d : Int))]) = some (kl2 e (numB (d : Int)))) :
    ∃ w', (Instr.mapUpdate 128 (.map (some b)) (.agg #[.string e, .string (numB (d : Int))]) (.bool true)).run Tryz.prog W.drew = .ok () w' ∧ DeadAt R k b w' ∧ W.grownBy w' (some b) := by
  obtain ⟨m, D, h1, h2⟩ := h
  have hs : Maps.size D < maxLen := by have := h2.few hk; unfold maxLen; omega
  have h3 : OwnD W.drew b (Maps.size D) D := ownD_tight h1
  obtain ⟨w', r1, r2, r3⟩ := World.ownsMap.update h3 keyed2 Tryz.underlying128 hs hkey (plainElem_bool (H := Unit) Tryz.underlying4 true)
  exact ⟨w', r1, ⟨_, _, r2, h2.put he hd hp⟩, ⟨r3.os, r3.tape, r3.output, r3.size, r3.block⟩⟩
/-- what firstAbove hands back -/
def RetFA (R : List RulD) (k : Nat) (bound : ByteArray) (m : Nat) (w0 : ByteArray) (b : Nat) (W : World) (e : Ending) (W' : World) : Prop :=
  W.grownBy W' (some b) ∧ DeadAt R k b W' ∧ ((∃ u, firstF R k bound m w0 = some u ∧ e = .returned (.tuple #[.string u, .bool true])) ∨ (firstF R k bound m w0 = none ∧ ∃ z, e = .returned (.tuple #[.string z, .bool false])))
/-- the box of a key -/
def BoxK (W0 : World) (q : Nat) (x y : ByteArray) (W : World) : Prop := W0.heap.size ≤ q ∧ W.heap[q]? = some (.cells #[.string x, .string y] 185 (0, 0))
theorem firstF_zero (R : List RulD) (k : Nat) (bound w0 : ByteArray) : firstF R k bound 0 w0 = if ltB bound w0 = true then some w0 else none := by
  unfold firstF wordsF
  rw [List.find?_singleton]
theorem extract_take (v : ByteArray) (n : Nat) : (v.extract 0 n).data.toList = v.data.toList.take n := by
  rw [ByteArray.data_extract, Array.toList_extract, List.extract_eq_take_drop]
  simp
/-- the letters of a word -/
def LetW (k : Nat) (e : ByteArray) : Prop := ∀ y ∈ e.data.toList, ∃ x, x < k ∧ y = lt97 x
theorem LetW.on {k : Nat} {e : ByteArray} (h : LetW k e) {x : Nat} (hx : x < k) : LetW k (e ++ letterN x) := fun y hy => by
  rw [app_lt] at hy
  rcases List.mem_append.1 hy with h1 | h1
  · exact h y h1
  · exact ⟨x, hx, by simpa using h1⟩
theorem LetW.cut {R : List RulD} {k : Nat} (G : SysG R k) {e : ByteArray} (h : LetW k e) : EndP k (cutR R e) :=
  ⟨Nat.le_trans (cutR_size _ _) (keep7 G), fun y hy => h y ((cut_suf R e).subset hy)⟩
/-- the key of w0 lies there still -/
theorem BoxK.kept {W0 W W' : World} {q b : Nat} {x y : ByteArray} (h : BoxK W0 q x y W) (hb : b < W0.heap.size) (hg : W.grownBy W' (some b)) : BoxK W0 q x y W' :=
  ⟨h.1, by rw [hg.block q (Array.getElem?_eq_some_iff.1 h.2).1 (fun e => by have := h.1; have := Option.some.inj e; omega)]; exact h.2⟩
theorem box2_facts {W : World} {q : Nat} {x y : ByteArray} (h : W.heap[q]? = some (.cells #[.string x, .string y] 185 (0, 0))) : W.cell? ⟨q, 0, none⟩ = some (.string x) ∧ W.cell? ⟨q, 1, none⟩ = some (.string y) ∧ W.frozen? ⟨q, 0, none⟩ = false ∧ W.frozen? ⟨q, 1, none⟩ = false := by
  refine ⟨?_, ?_, ?_, ?_⟩ <;> simp [World.cell?, World.frozen?, h]
theorem box2_set {W : World} {q : Nat} {x0 y0 x y : ByteArray} (h : W.heap[q]? = some (.cells #[.string x0, .string y0] 185 (0, 0))) : ((W.setCell ⟨q, 0, none⟩ (.string x)).setCell ⟨q, 1, none⟩ (.string y)).heap[q]? = some (.cells #[.string x, .string y] 185 (0, 0)) := by
  unfold World.setCell
  simp [Array.getElem?_modify, h]
set_option maxRecDepth 100000 in
set_option maxHeartbeats 4000000 in
theorem firstAbove_any (k : Nat) (R : List RulD) (b p : Nat) (a : Option Addr) (cap : Nat) (bound : ByteArray) (n : Nat) (hn3 : n ≤ 300) (hlen : R.length ≤ 2 ^ 40) (G : SysG R k) : ∀ (m : Nat) (w0 : ByteArray) (w : World), w0.size + m = n → (bound.size = 0 ∨ bound.size = n) → LetW k w0 → EnvF w b p (k : Nat) a cap R → DeadAt R k b w →
    Calls Tryz.prog 145 #[.pointer (some ⟨p, 0, none⟩), .string w0, .int .i64 (n : Nat), .string bound] w (RetFA R k bound m w0 b w) := by
  intro m
  induction m with
  | zero =>
    intro w0 w hsz hbs hlw hen hda
    have HF := Lib.hid (firstF_zero R k bound w0)
    have HL : Hid (ltB bound w0 = (!Op.bytesLess w0.toList bound.toList && !(w0.toList == bound.toList))) := Lib.hid (by unfold ltB; rw [gt_less, ByteArray.toList_eq, ByteArray.toList_eq])
    have HDA := Lib.hid hda
    have hgr : Hid (w.grownBy w (some b)) := Lib.hid ⟨rfl, rfl, rfl, Nat.le_refl _, fun _ _ _ => rfl⟩
    obtain rfl : w0.size = n := hsz
    clear hbs hlw hen hda
    cases hq : (!Op.bytesLess w0.toList bound.toList && !(w0.toList == bound.toList))
    · have F : Hid (firstF R k bound 0 w0 = none) := Lib.hid (by rw [HF.out, HL.out, hq]; rfl)
      go_enter Tryz.func145, Tryz.ntmps145
      go_wp2_with fail
      go_ret2
      exact ⟨hgr.out, HDA.out, .inr ⟨F.out, _, rfl⟩⟩
    · have F : Hid (firstF R k bound 0 w0 = some w0) := Lib.hid (by rw [HF.out, HL.out, hq]; rfl)
      go_enter Tryz.func145, Tryz.ntmps145
      go_wp2_with fail
      go_ret2
      exact ⟨hgr.out, HDA.out, .inl ⟨_, F.out, rfl⟩⟩
  | succ m ih =>
    intro w0 w hsz hbs hlw hen hda
    have hq7 := keep7 G
    have hk4 := G.k4
    have HSZ := Lib.hid hsz
    have hws : w0.size ≤ 300 := by omega
    have hne : ¬ (w0.size : Int) = (n : Int) := by omega
    have HEN := Lib.hid hen
    have HDA := Lib.hid hda
    have HLW := Lib.hid hlw
    have HBS := Lib.hid hbs
    have IH := Lib.hid ih
    have hbw : b < w.heap.size := by obtain ⟨_, _, h, _⟩ := hda; exact h.lt
    obtain ⟨fr, hfr⟩ : ∃ fr : Bool, fr = true ↔ FreeW bound w0 := ⟨by classical exact decide (FreeW bound w0), by simp⟩
    have HFR := Lib.hid hfr
    have hgr : Hid (w.grownBy w (some b)) := Lib.hid ⟨rfl, rfl, rfl, Nat.le_refl _, fun _ _ _ => rfl⟩
    obtain ⟨d, hd⟩ : ∃ d, d = m + 1 := ⟨_, rfl⟩
    have HD := Lib.hid hd
    have hd3 : d ≤ 300 := by omega
    have hw10 : IntKind.i64.wrap ((n : Int) - (w0.size : Int)) = (d : Int) := by rw [IntWalk.i64_in _ (by omega)]; omega
    have hw9 : IntKind.i64.wrap ((w0.size : Int) - (keepR R : Int)) = (w0.size : Int) - (keepR R : Int) := IntWalk.i64_in _ (by omega)
    have hmx : max (0 : Int) ((w0.size : Int) - (keepR R : Int)) = ((w0.size - keepR R : Nat) : Int) := by omega
    have hl1 : ((w0.size - keepR R : Nat) : Int) ≤ (w0.size : Int) := by omega
    have hl2 : w0.size - keepR R ≤ w0.size := by omega
    have HCUT : Hid (cutR R w0 = w0.extract (w0.size - keepR R) w0.size) := Lib.hid rfl
    clear hsz hbs hlw hen hda ih hd hfr
    go_enter Tryz.func145, Tryz.ntmps145
    go_upto_region 3 with fail
    go_cut [10] (fun v wx => v = .bool fr ∧ w = wx)
    case first =>
      clear hw10 hw9 hmx hl1 hl2
      by_cases hb0 : bound.size = 0
      · obtain rfl : bound = ⟨#[]⟩ := ba_ext0 (List.length_eq_zero_iff.1 hb0)
        have hf : fr = true := HFR.out.2 (.inl rfl)
        go_wp2_with fail
        go_meet
        exact ⟨by rw [hf], rfl⟩
      · have hb1 : bound ≠ ⟨#[]⟩ := fun e => hb0 (by rw [e]; rfl)
        have hbn : bound.size = n := by rcases HBS.out with h | h; exact absurd h hb0; exact h
        have hle : w0.size ≤ bound.size := by have := HSZ.out; omega
        have hemp : bound.toList.isEmpty = false := by
          rw [ByteArray.toList_eq]
          cases h : bound.data.toList with
          | nil => exact absurd (show bound.size = 0 from by have h2 : bound.data.toList.length = bound.size := rfl; rw [h] at h2; exact h2.symm) hb0
          | cons _ _ => rfl
        have HLT : Hid ((!Op.bytesLess w0.toList (bound.extract 0 w0.size).toList && !(w0.toList == (bound.extract 0 w0.size).toList)) = fr) := Lib.hid (by
          rw [gt_less, ByteArray.toList_eq, ByteArray.toList_eq, extract_take]
          cases h : Op.bytesLess (bound.data.toList.take w0.size) w0.data.toList
          · cases hf : fr
            · rfl
            · rcases HFR.out.1 hf with h1 | h1
              · exact absurd h1 hb0
              · rw [h] at h1; cases h1
          · exact (HFR.out.2 (.inr h)).symm)
        clear hbn
        go_wp2_with fail
        go_meet
        exact ⟨congrArg Value.bool HLT.out, rfl⟩
    case rest =>
      obtain ⟨rfl, rfl⟩ := hcut
      have HK : Hid (∀ W, Below w.heap.size w W → W.cell? ⟨p, 2, none⟩ = some (.int .i64 (keepR R : Nat)) ∧ Tab10 W) := Lib.hid (fun W hW => ⟨(HEN.out.rd.later hW).2.2, HEN.out.tab.later hW⟩)
      have r0 := (HK.out w (Below.refl _ _)).1
      clear hne
      go_upto_region 4 with fail
      go_cut [11] (fun v wx => ∃ q, v = .pointer (some ⟨q, 0, none⟩) ∧ BoxK w q (cutR R w0) (numB (d : Int)) wx ∧ Below w.heap.size w wx)
      case first =>
        have HFI := Lib.hid (fun W h => implFormatInt_any (d : Int) W (by omega) (by omega) h)
        have hpw : p < w.heap.size := World.block_lt_of_cell? w _ r0
        have hpn1 : ¬ w.heap.size = p := by omega
        have hpn2 : ¬ p = w.heap.size := by omega
        generalize keepR R = kq at *
        go_region_held3 (fun w' => w'.cell? ⟨p, 2, none⟩ = some (.int .i64 (kq : Nat))) (go_keep) (first
          | (go_at_call 35; refine (HFI.out _ (HK.out _ (by repeat (first | exact Below.refl _ _ | refine Below.drew ?_ | refine below_drewN ?_ _ | refine Below.alloc ?_ (by simp; try omega) _))).2).mono ?_; rintro e w6 ⟨rfl, hb6⟩; have K6 : Hid (Below w.heap.size w w6) := Lib.hid (Below.now (by repeat (first | exact Below.refl _ _ | refine Below.drew ?_ | refine below_drewN ?_ _ | refine Below.alloc ?_ (by simp; try omega) _)) hb6); have t0 := (HK.out w6 K6.out).1; (try (have TB := Lib.hid ((hb6.block w.heap.size (by first | (simp; done) | (simp; omega))).trans (by first | exact alloc_at _ _ | (simp; done))); have T := Lib.hid (box2_facts TB.out); have t1 := T.out.1; have t2 := T.out.2.1; have t3 := T.out.2.2.1; have t4 := T.out.2.2.2)); clear hb6))
        all_goals
          go_wp2_with fail
          go_meet
          rw [HCUT.out]
          first
            | exact ⟨_, rfl, ⟨K6.out.size, alloc_at _ _⟩, K6.out.alloc K6.out.size _⟩
            | exact ⟨_, rfl, ⟨Nat.le_refl _, box2_set TB.out⟩, (K6.out.setCell (Nat.le_refl _) _).setCell (Nat.le_refl _) _⟩
      case rest =>
        obtain ⟨q, rfl, hbox, hb1⟩ := hcut
        have hg1 : w.grownBy wc (some b) := (belowGrown hb1).but (some b)
        have HG1 := Lib.hid hg1
        have HE1 := Lib.hid (HEN.out.grown hg1)
        have HD1 := Lib.hid (HDA.out.kept (belowGrown hb1))
        have HB1 := Lib.hid hbox
        have HEP := Lib.hid (HLW.out.cut G)
        have HKEY : Hid (keyOf Tryz.prog 185 (.agg #[.string (cutR R w0), .string (numB (d : Int))]) = some (kl2 (cutR R w0) (numB (d : Int)))) := Lib.hid (keyOf2 _ _ (by have := HEP.out.1; unfold maxLen; omega) (numB_size (by omega)))
        clear hw10 hw9 hmx hl1 hl2 r0 hb1 hg1 HK HCUT HEN HDA hbox
        go_upto_region 5 with fail
        go_cut [60] (fun v wx => ∃ dd : Bool, v = .bool dd ∧ (dd = true → firstF R k bound (m + 1) w0 = none) ∧ Below wc.heap.size wc wx)
        case first =>
          cases fr
          · go_quiet (fail)
            go_wp2_with fail
            go_meet
            exact ⟨false, rfl, fun h => (by cases h), below_drewN (Below.refl _ _) _⟩
          · obtain ⟨k0, k1, _, _⟩ := box2_facts HB1.out.2
            have c1 := HE1.out.mp
            obtain ⟨m2, D, hom, hdm⟩ := HD1.out
            have HOM := Lib.hid hom
            have hlk := hdm.look HEP.out hd3
            clear hom
            rcases hlk with ⟨hz, hat⟩ | hat
            · have hrun : ∀ x, (Instr.lookup 128 (.map (some b)) (.agg #[.string (cutR R w0), .string (numB (d : Int))]) false).run Tryz.prog (wc.drewN x) = .ok (.bool true) (wc.drewN x) := fun x => lookBool (show OwnD (wc.drewN x) b m2 D from HOM.out) HKEY.out (hat _)
              have HZ : Hid (firstF R k bound (m + 1) w0 = none) := Lib.hid (by
                rw [HD.out, paths_cut G.ne] at hz
                exact none_of_paths G.ne hz)
              clear hat hz hdm
              go_quiet (fail)
              go_wp2_with fail
              go_meet
              exact ⟨true, rfl, fun _ => HZ.out, below_drewN (Below.refl _ _) _⟩
            · have hrun : ∀ x, (Instr.lookup 128 (.map (some b)) (.agg #[.string (cutR R w0), .string (numB (d : Int))]) false).run Tryz.prog (wc.drewN x) = .ok (.bool false) (wc.drewN x) := fun x => lookBool (show OwnD (wc.drewN x) b m2 D from HOM.out) HKEY.out (hat _)
              clear hat hdm
              go_quiet (fail)
              go_wp2_with fail
              go_meet
              exact ⟨false, rfl, fun h => (by cases h), below_drewN (Below.refl _ _) _⟩
        case rest =>
          obtain ⟨dd, rfl, hdd, hb2⟩ := hcut
          have HDD := Lib.hid hdd
          have hg2 := (belowGrown hb2).but (some b)
          have HG3 := Lib.hid (HG1.out.trans hg2)
          have HD3 := Lib.hid (HD1.out.kept (belowGrown hb2))
          have HB3 := Lib.hid (HB1.out.kept hbw hg2)
          have HE3 := Lib.hid (HE1.out.grown hg2)
          clear hg2 hb2 hdd HG1 HD1 HB1 HE1
          cases dd
          · have c1 := HE3.out.rd.1
            go_wp2_with fail
            go_loopw [66] (fun vi wr => ∃ x : Nat, x ≤ k ∧ vi = .int .i64 (x : Nat) ∧ Hid (NoneTo R k bound m w0 x) ∧ Hid (DeadAt R k b wr) ∧ Hid (BoxK w q (cutR R w0) (numB (d : Int)) wr) ∧ Hid (w.grownBy wr (some b)) ∧ Hid (EnvF wr b p (k : Nat) a cap R)) (fun vi _ => k - (intOf vi).toNat)
            case atStart => exact ⟨0, Nat.zero_le _, rfl, Lib.hid (NoneTo.start _ _ _ _ _), HD3, HB3, HG3, HE3⟩
            case round =>
              clear HD3 HB3 HG3 HE3 c1
              obtain ⟨x, hx, rfl, HNO, HD4, HB4, HG4, HE4⟩ := hrel
              by_cases hlx : x < k
              · have HLT := Lib.hid (fun W => letterOf_any x W (by omega))
                have HVS : Hid ((w0 ++ letterN x).size = w0.size + 1) := Lib.hid (by rw [ByteArray.size_append, letterN_size])
                have hos := letterN_size x
                have hs2 : ¬ 9223372036854775807 < w0.size + 1 := by omega
                have HBL : Hid (bound.size = n → Op.bytesLess (w0 ++ letterN x).toList (bound.extract 0 (w0 ++ letterN x).size).toList = true → firstF R k bound m (w0 ++ letterN x) = none) := Lib.hid (fun h1 h2 => by
                  rw [ByteArray.toList_eq, ByteArray.toList_eq, extract_take] at h2
                  exact below_none (by rw [HVS.out, h1]; have := HSZ.out; omega) h2)
                generalize hW : wr = wr0 at *
                clear hW
                go_upto_region 11 with (go_at_call 109; refine (HLT.out _).mono ?_; rintro e w5 ⟨rfl, hb5⟩)
                have hg5 := (belowGrown hb5).but (some b)
                have HG5 := Lib.hid (HG4.out.trans hg5)
                have HD5 := Lib.hid (HD4.out.kept (belowGrown hb5))
                have HB5 := Lib.hid (HB4.out.kept hbw hg5)
                have HE5 := Lib.hid (HE4.out.grown hg5)
                have HOKC := Lib.hid (okX_cut G.ne w0 x)
                have HNOX := Lib.hid (fun h => HNO.out.no (x := x) h)
                have HSK := Lib.hid (fun h => HNO.out.skip (x := x) h)
                have HFO := Lib.hid (fun u h1 h2 => HNO.out.found (u := u) hlx h1 h2)
                have HLV := Lib.hid (HLW.out.on hlx)
                clear hg5 hb5 HG4 HD4 HB4 HE4 HLT
                generalize w0 ++ letterN x = v at *
                have hvs := HVS.out
                go_cut [82] (fun vv wx => ∃ sk : Bool, vv = .bool sk ∧ w5 = wx ∧ (sk = true → firstF R k bound m v = none))
                case first =>
                  cases fr
                  · have hbn : bound.size = n := by
                      rcases HBS.out with h | h
                      · exact absurd (HFR.out.2 (.inl h)) (by simp)
                      · exact h
                    have hle : v.size ≤ bound.size := by have := HSZ.out; omega
                    have HBL2 := Lib.hid (HBL.out hbn)
                    clear hbn hvs
                    cases hq : Op.bytesLess v.toList (bound.extract 0 v.size).toList
                    · go_wp2_with fail
                      go_meet
                      exact ⟨false, rfl, rfl, fun h => (by cases h)⟩
                    · have F := Lib.hid (HBL2.out hq)
                      go_wp2_with fail
                      go_meet
                      exact ⟨true, rfl, rfl, fun _ => F.out⟩
                  · clear hvs
                    go_wp2_with fail
                    go_meet
                    exact ⟨false, rfl, rfl, fun h => (by cases h)⟩
                case rest =>
                  obtain ⟨sk, rfl, rfl, hsk⟩ := hcut
                  have HS5 := Lib.hid hsk
                  clear hsk hvs HBL hos hs2
                  cases sk
                  · obtain ⟨c1, c2, _, _⟩ := box2_facts HB5.out.2
                    have HNX := Lib.hid (readerNext_any (k : Nat) R p (cutR R w0) x a cap w5 HE5.out.rules hlen HE5.out.rd (by omega) (by have := HEP.out.1; omega) (by omega))
                    go_wp2_with fail
                    refine HNX.out.mono ?_
                    rintro e9 w6 (⟨hok, rfl, hb6⟩ | ⟨hok, rfl, hb6⟩)
                    · have hg6 := (belowGrown hb6).but (some b)
                      have HG6 := Lib.hid (HG5.out.trans hg6)
                      have HD6 := Lib.hid (HD5.out.kept (belowGrown hb6))
                      have HB6 := Lib.hid (HB5.out.kept hbw hg6)
                      have HE6 := Lib.hid (HE5.out.grown hg6)
                      have HFO2 := Lib.hid (fun u => HFO.out u (HOKC.out.symm.trans hok))
                      have HI := Lib.hid (IH.out v w6 (by have := HVS.out; have := HSZ.out; omega) HBS.out HLV.out HE6.out HD6.out)
                      clear hok hg6 hb6 c1 c2 HNX HG5 HD5 HB5 HE5
                      generalize nxtX R (cutR R w0) x = nx
                      go_wp2_with fail
                      refine HI.out.mono ?_
                      rintro e10 w7 ⟨hg7, hd7, hcase⟩
                      have HG7 := Lib.hid (HG6.out.trans hg7)
                      have HD7 := Lib.hid hd7
                      have HB7 := Lib.hid (HB6.out.kept hbw hg7)
                      have HE7 := Lib.hid (HE6.out.grown hg7)
                      clear hg7 hd7 HG6 HD6 HB6 HE6 HI
                      rcases hcase with ⟨u, hu, rfl⟩ | ⟨hu, z, rfl⟩
                      · have F : Hid (RetFA R k bound (m + 1) w0 b w (.returned (.tuple #[.string u, .bool true])) w7) := Lib.hid ⟨HG7.out, HD7.out, .inl ⟨u, HFO2.out u hu, rfl⟩⟩
                        clear hu
                        go_wp2_with fail
                        go_ret2
                        exact F.out
                      · have F := Lib.hid (HSK.out hu)
                        clear hu
                        go_wp2_with fail
                        go_roundw
                        case rel => exact ⟨x + 1, by omega, by go_num, F, HD7, HB7, HG7, HE7⟩
                        case measure => simp [intOf]; omega
                    · have hg6 := (belowGrown hb6).but (some b)
                      have HG6 := Lib.hid (HG5.out.trans hg6)
                      have HD6 := Lib.hid (HD5.out.kept (belowGrown hb6))
                      have HB6 := Lib.hid (HB5.out.kept hbw hg6)
                      have HE6 := Lib.hid (HE5.out.grown hg6)
                      have F := Lib.hid (HNOX.out (HOKC.out.symm.trans hok))
                      clear hok hg6 hb6 c1 c2 HNX HG5 HD5 HB5 HE5
                      go_wp2_with fail
                      go_roundw
                      case rel => exact ⟨x + 1, by omega, by go_num, F, HD6, HB6, HG6, HE6⟩
                      case measure => simp [intOf]; omega
                  · have F := Lib.hid (HSK.out (HS5.out rfl))
                    go_wp2_with fail
                    go_roundw
                    case rel => exact ⟨x + 1, by omega, by go_num, F, HD5, HB5, HG5, HE5⟩
                    case measure => simp [intOf]; omega
              · obtain rfl : x = k := by omega
                have HDN := Lib.hid HNO.out.done
                clear HNO
                cases fr
                · have F : Hid (RetFA R x bound (m + 1) w0 b w (.returned (.tuple #[.string ⟨#[]⟩, .bool false])) wr) := Lib.hid ⟨HG4.out, HD4.out, .inr ⟨HDN.out, _, rfl⟩⟩
                  go_wp2_with fail
                  go_ret2
                  exact F.out
                · have HPZ : Hid (paths R x d (cutR R w0) = 0) := Lib.hid (by
                    have h1 := HSZ.out
                    rw [HD.out, paths_cut G.ne]
                    exact free_none G.ne (HFR.out.1 rfl) (by rcases HBS.out with h | h; exact .inl h; exact .inr (by omega)) (by omega) HDN.out)
                  have HST := Lib.hid (HD4.out.store HEP.out hd3 HPZ.out hk4 HKEY.out)
                  obtain ⟨w9, hrun, hf1, hf2⟩ := HST.out
                  have HF1 := Lib.hid hf1
                  have HF2 := Lib.hid hf2
                  obtain ⟨c1, c2, _, _⟩ := box2_facts HB4.out.2
                  have c3 := HE4.out.mp
                  have HFF : Hid (RetFA R x bound (m + 1) w0 b w (.returned (.tuple #[.string ⟨#[]⟩, .bool false])) w9) := Lib.hid ⟨HG4.out.trans HF2.out, HF1.out, .inr ⟨HDN.out, _, rfl⟩⟩
                  clear hf1 hf2 HST
                  go_wp2_with fail
                  go_region
                  all_goals
                    go_wp2_with fail
                    go_ret2
                    exact HFF.out
          · have F : Hid (RetFA R k bound (m + 1) w0 b w (.returned (.tuple #[.string ⟨#[]⟩, .bool false])) wc) := Lib.hid ⟨HG3.out, HD3.out, .inr ⟨HDD.out rfl, _, rfl⟩⟩
            go_wp2_with fail
            go_ret2
            exact F.out
end Go.Proofs.YtgoeadgpbidgiaaGreatDoor
namespace Go.Proofs.YtgoeadgpbidgiaaGreatDoor
open Go.RowKit Go.Maps
set_option linter.unusedVariables false
/-- the bound behind i words -/
def bndW (L : List ByteArray) : Nat → ByteArray
  | 0 => ⟨#[]⟩
  | i + 1 => nthS L i
theorem ltB_irr (a : ByteArray) : ltB a a = false := by
  unfold ltB
  rw [← gt_less]
  simp
theorem ltB_asymm {a b : ByteArray} (h : ltB a b = true) : ltB b a = false := by
  unfold ltB at *
  rw [← gt_less, h]
  rfl
theorem nthS_get {L : List ByteArray} {i : Nat} (h : i < L.length) : nthS L i = L[i] := by
  unfold nthS; rw [List.getD_eq_getElem?_getD, List.getElem?_eq_getElem h]; rfl
/-- in a rising list, the first one above one is the next one -/
theorem rise_next {L : List ByteArray} (hp : L.Pairwise (fun a b => ltB a b = true)) {i : Nat} (hi : i + 1 < L.length) : (L.find? fun u => ltB (nthS L i) u) = some (nthS L (i + 1)) := by
  rw [List.pairwise_iff_getElem] at hp
  rw [List.find?_eq_some_iff_getElem]
  rw [nthS_get hi, nthS_get (show i < L.length by omega)]
  refine ⟨hp i (i + 1) (by omega) hi (by omega), i + 1, hi, rfl, fun j hj => ?_⟩
  by_cases e : j = i
  · subst e
    rw [ltB_irr]; rfl
  · rw [ltB_asymm (hp j i (by omega) (by omega) (by omega))]; rfl
theorem firstF_at {R : List RulD} {k n : Nat} (hk : k ≤ 4) (hn : 0 < n) {i : Nat} (hi : i < (wordsF R k n ⟨#[]⟩).length) : firstF R k (bndW (wordsF R k n ⟨#[]⟩) i) n ⟨#[]⟩ = some (nthS (wordsF R k n ⟨#[]⟩) i) := by
  cases i with
  | succ i => exact rise_next (wordsF_rise hk n ⟨#[]⟩) hi
  | zero =>
    unfold firstF
    rw [List.find?_eq_some_iff_getElem, nthS_get hi]
    refine ⟨?_, 0, hi, rfl, fun j hj => by omega⟩
    have hs := wordsF_size R k n ⟨#[]⟩ _ (List.getElem_mem hi)
    have h0 : (⟨#[]⟩ : ByteArray).size = 0 := rfl
    have hsz : ∀ z : ByteArray, z.data.toList.length = z.size := fun z => rfl
    show Op.bytesLess [] _ = true
    refine less_nil fun e => ?_
    have h1 := hsz (wordsF R k n ⟨#[]⟩)[0]
    rw [e] at h1
    simp only [List.length_nil] at h1
    omega
theorem bndW_size {R : List RulD} {k n : Nat} {i : Nat} (hi : i ≤ (wordsF R k n ⟨#[]⟩).length) : (bndW (wordsF R k n ⟨#[]⟩) i).size = 0 ∨ (bndW (wordsF R k n ⟨#[]⟩) i).size = n := by
  cases i with
  | zero => exact .inl rfl
  | succ i =>
    right
    show (nthS _ i).size = n
    rw [nthS_get (show i < _ by omega)]
    have hs := wordsF_size R k n ⟨#[]⟩ _ (List.getElem_mem (show i < _ by omega))
    have h0 : (⟨#[]⟩ : ByteArray).size = 0 := rfl
    omega
theorem EnvF.onto {wB W W' : World} {b p : Nat} {k : Int} {a : Option Addr} {cap : Nat} {R : List RulD} {own : Option Nat} (h : EnvF W b p k a cap R) (hr : RulesIn wB a R) (ht : Tab10 wB) (hb : Below wB.heap.size wB W') (hg : W.grownBy W' own) (hne : own ≠ some p) : EnvF W' b p k a cap R := by
  obtain ⟨r1, r2, r3⟩ := h.rd
  have hn : ∀ o, some (⟨p, o, none⟩ : Addr).block ≠ own := fun o e => hne e.symm
  exact ⟨⟨hg.cell r1 (hn 0), hg.cell r2 (hn 1), hg.cell r3 (hn 2)⟩, hg.cell h.mp (hn 3), hr.later hb, ht.later hb, h.ne⟩
theorem EnvF.lt {W : World} {b p : Nat} {k : Int} {a : Option Addr} {cap : Nat} {R : List RulD} (h : EnvF W b p k a cap R) : p < W.heap.size := World.block_lt_of_cell? W ⟨p, 0, none⟩ h.rd.1
theorem DeadAt.lt {R : List RulD} {k b : Nat} {W : World} (h : DeadAt R k b W) : b < W.heap.size := by obtain ⟨_, _, h1, _⟩ := h; exact h1.lt
theorem DeadAt.kept2 {R : List RulD} {k b : Nat} {W W' : World} {own : Option Nat} (h : DeadAt R k b W) (hg : W.grownBy W' own) (hne : some b ≠ own) : DeadAt R k b W' := by
  obtain ⟨m, D, h1, h2⟩ := h
  exact ⟨m, D, h1.kept hg hne, h2⟩
/-- a row lies apart from the reader and its map -/
def NeB (v : Value) (p b : Nat) : Prop := ∀ k, v.ownBlock = some k → k ≠ p ∧ k ≠ b
theorem owns_strs1 {w : World} {base : Nat} {T : TypeId} {a : Option Addr} {n m cap : Nat} {l : List ByteArray} (h : w.ownsRow base T 1 (.slice a m cap) n (strVals l)) : StrsIn w a l := owns_cells h
theorem take_nth {L : List ByteArray} {i : Nat} (h : i < L.length) : L.take (i + 1) = L.take i ++ [nthS L i] := by
  rw [List.take_succ_eq_append_getElem h, nthS_get h]
theorem nth_take {L : List ByteArray} {i : Nat} (h : i < L.length) : nthS (L.take (i + 1)) i = nthS L i := by
  rw [nthS_get (by rw [List.length_take]; omega), nthS_get h, List.getElem_take]
set_option maxRecDepth 100000 in
set_option maxHeartbeats 4000000 in
theorem words_any (k n : Nat) (R : List RulD) (b p : Nat) (a : Option Addr) (cap : Nat) (wB w : World) (hn3 : n ≤ 300) (hlen : R.length ≤ 2 ^ 40) (G : SysG R k) (hL : (wordsF R k n ⟨#[]⟩).length ≤ 256) (hr : RulesIn wB a R) (ht : Tab10 wB) (hbw : Below wB.heap.size wB w) (hbB : wB.heap.size ≤ b) (hen : EnvF w b p (k : Nat) a cap R) (hda : DeadAt R k b w) :
    Calls Tryz.prog 102 #[.pointer (some ⟨p, 0, none⟩), .int .i64 (n : Nat), .int .i64 ((wordsF R k n ⟨#[]⟩).length : Nat)] w (RetSl 9 1 (wordsF R k n ⟨#[]⟩).length (strVals (wordsF R k n ⟨#[]⟩)) wB) := by
  have HRB := Lib.hid hr
  have HTB := Lib.hid ht
  have HEN0 := Lib.hid hen
  have HDA0 := Lib.hid hda
  have HFA0 := Lib.hid (fun bound W => firstAbove_any k R b p a cap bound n hn3 hlen G n ⟨#[]⟩ W)
  have HAT := Lib.hid (fun i => firstF_at (R := R) (n := n) (i := i) G.k4)
  have HBS := Lib.hid (fun i => bndW_size (R := R) (k := k) (n := n) (i := i))
  have HZ : Hid (n = 0 → wordsF R k n ⟨#[]⟩ = [⟨#[]⟩]) := Lib.hid (fun h => by rw [h]; rfl)
  have HB0 := Lib.hid (Bld.nil 9 1 hbw)
  generalize hLe : wordsF R k n ⟨#[]⟩ = L at *
  clear hr ht hen hda hbw hLe
  go_enter Tryz.func102, Tryz.ntmps102
  go_wp2_with fail
  go_loopw [7, 8] (fun vo vb wr => ∃ i : Nat, i ≤ L.length ∧ vb = .string (bndW L i) ∧ Bld 9 1 wB wr vo i (strVals (L.take i)) ∧ NeB vo p b ∧ Hid (EnvF wr b p (k : Nat) a cap R) ∧ Hid (DeadAt R k b wr)) (fun vo _ _ => L.length - lenV vo)
  case atStart => exact ⟨0, Nat.zero_le _, rfl, HB0.out, fun k hk => (by cases hk), HEN0, HDA0⟩
  case round =>
    clear HB0 HEN0 HDA0
    obtain ⟨i, hi, rfl, hbd, hne, HEN, HDA⟩ := hrel
    obtain ⟨go, co, rfl⟩ := owns_form hbd.1
    have HBD := Lib.hid hbd
    have HNE : Hid (NeB (.slice go i co) p b) := Lib.hid hne
    clear hbd hne
    by_cases hlt : i < L.length
    · have HBW : Hid (bndW L (i + 1) = nthS L i) := Lib.hid rfl
      have HTK := Lib.hid (take_nth hlt)
      have HTN := Lib.hid (nth_take hlt)
      have HFA := Lib.hid (HFA0.out (bndW L i) wr (Nat.zero_add n) (HBS.out i hi) (fun y hy => by cases hy) HEN.out HDA.out)
      have HATi := Lib.hid (fun h => HAT.out i h hlt)
      have HZ2 : Hid (n = 0 → nthS L i = ⟨#[]⟩) := Lib.hid (fun h => by
        have h1 := HZ.out h
        have h2 : i = 0 := by rw [h1] at hlt; simpa using hlt
        rw [h1, h2]; rfl)
      generalize bndW L i = bd at *
      generalize nthS L i = x at *
      generalize hlL : L.length = lL at *
      go_wp2_with fail
      refine HFA.out.mono ?_
      rintro e5 w5 ⟨hg5, hd5, hcase⟩
      by_cases hn0 : n = 0
      · obtain rfl : x = ⟨#[]⟩ := HZ2.out hn0
        have hnb : ((n : Int) == 0) = true := by rw [hn0]; rfl
        clear hn0 hn3
        rcases hcase with ⟨u, hu, rfl⟩ | ⟨hu, z, rfl⟩
        · have hcase := hu
          have HB5 := Lib.hid (keptB HBD.out hg5 (fun k hk e => (HNE.out k hk).2 (by injection e with e; exact e.symm)) (fun k hk => by cases hk; exact hbB))
          have HE5 := Lib.hid (HEN.out.grown hg5)
          have HD5 := Lib.hid hd5
          have hB5 := HB5.out.2.size
          clear hg5 hd5 hcase hu HBD HEN HDA HFA
          have HA5 := Lib.hid (HB5.out.later (alloc_belowS w5 (.cells #[.string ⟨#[]⟩] 9)))
          have HN1 : Hid ([Value.string ⟨#[]⟩].length = 1 * 1) := Lib.hid rfl
          have HN2 : Hid (∀ y ∈ [Value.string ⟨#[]⟩], y.oneCell' = true) := Lib.hid (fun y hy => by rw [List.mem_singleton.1 hy]; rfl)
          go_wp2_with (at_builtin; refine wpList_appM rfl (.tmp 33) (.tmp 35) rfl Tryz.underlying48 Tryz.infoStr rfl (by decide) rfl HA5.out rfl (Src.lit _) HN1.out HN2.out ?b1 ?b2 ?b3)
          case b1 => unfold maxLen; omega
          case b2 => omega
          intro v7 w7 hb7 hg7 ho7
          have HB7 : Hid (Bld 9 1 wB w7 v7 (i + 1) (strVals (L.take (i + 1)))) := Lib.hid (by
            rw [HTK.out, strVals_app]; exact hb7)
          have HG7 := Lib.hid ((World.grownBy_alloc w5 (.cells #[.string ⟨#[]⟩] 9) (Value.slice go i co).ownBlock).trans hg7)
          have HE7 : Hid (EnvF w7 b p (k : Nat) a cap R) := Lib.hid (HE5.out.onto HRB.out HTB.out HB7.out.2 HG7.out (fun e => (HNE.out p e).1 rfl))
          have HD7 : Hid (DeadAt R k b w7) := Lib.hid (HD5.out.kept2 HG7.out (fun e => (HNE.out b e.symm).2 rfl))
          have HNE7 : Hid (NeB v7 p b) := Lib.hid (by
            rcases ho7 with h | h
            · intro k hk; exact HNE.out k (h ▸ hk)
            · intro k hk
              have e := Option.some.inj (h.symm.trans hk)
              have e2 : (w5.alloc (.cells #[.string ⟨#[]⟩] 9)).heap.size = w5.heap.size + 1 := by simp
              have h1 := HE5.out.lt
              have h2 := HD5.out.lt
              omega)
          obtain ⟨g7, c7, rfl⟩ := owns_slot HB7.out.1 (by omega)
          have hc7 : w7.cell? ⟨g7, i, none⟩ = some (.string ⟨#[]⟩) := by
            obtain ⟨b', off, e1, _, hc⟩ := (owns_strs1 HB7.out.1).cell (i := i) (by rw [List.length_take]; omega)
            cases e1
            have h := hc i (by rw [List.length_take]; omega)
            rw [HTN.out, Nat.zero_add] at h
            exact h
          clear hb7 hg7 ho7
          go_wp2_with fail
          go_roundw
          case rel => exact ⟨i + 1, by omega, by rw [HBW.out], HB7.out, HNE7.out, HE7, HD7⟩
          case measure => simp only [lenV]; omega
        · have hcase := hu
          have HB5 := Lib.hid (keptB HBD.out hg5 (fun k hk e => (HNE.out k hk).2 (by injection e with e; exact e.symm)) (fun k hk => by cases hk; exact hbB))
          have HE5 := Lib.hid (HEN.out.grown hg5)
          have HD5 := Lib.hid hd5
          have hB5 := HB5.out.2.size
          clear hg5 hd5 hcase hu HBD HEN HDA HFA
          have HA5 := Lib.hid (HB5.out.later (alloc_belowS w5 (.cells #[.string ⟨#[]⟩] 9)))
          have HN1 : Hid ([Value.string ⟨#[]⟩].length = 1 * 1) := Lib.hid rfl
          have HN2 : Hid (∀ y ∈ [Value.string ⟨#[]⟩], y.oneCell' = true) := Lib.hid (fun y hy => by rw [List.mem_singleton.1 hy]; rfl)
          go_wp2_with (at_builtin; refine wpList_appM rfl (.tmp 33) (.tmp 35) rfl Tryz.underlying48 Tryz.infoStr rfl (by decide) rfl HA5.out rfl (Src.lit _) HN1.out HN2.out ?c1 ?c2 ?c3)
          case c1 => unfold maxLen; omega
          case c2 => omega
          intro v7 w7 hb7 hg7 ho7
          have HB7 : Hid (Bld 9 1 wB w7 v7 (i + 1) (strVals (L.take (i + 1)))) := Lib.hid (by
            rw [HTK.out, strVals_app]; exact hb7)
          have HG7 := Lib.hid ((World.grownBy_alloc w5 (.cells #[.string ⟨#[]⟩] 9) (Value.slice go i co).ownBlock).trans hg7)
          have HE7 : Hid (EnvF w7 b p (k : Nat) a cap R) := Lib.hid (HE5.out.onto HRB.out HTB.out HB7.out.2 HG7.out (fun e => (HNE.out p e).1 rfl))
          have HD7 : Hid (DeadAt R k b w7) := Lib.hid (HD5.out.kept2 HG7.out (fun e => (HNE.out b e.symm).2 rfl))
          have HNE7 : Hid (NeB v7 p b) := Lib.hid (by
            rcases ho7 with h | h
            · intro k hk; exact HNE.out k (h ▸ hk)
            · intro k hk
              have e := Option.some.inj (h.symm.trans hk)
              have e2 : (w5.alloc (.cells #[.string ⟨#[]⟩] 9)).heap.size = w5.heap.size + 1 := by simp
              have h1 := HE5.out.lt
              have h2 := HD5.out.lt
              omega)
          obtain ⟨g7, c7, rfl⟩ := owns_slot HB7.out.1 (by omega)
          have hc7 : w7.cell? ⟨g7, i, none⟩ = some (.string ⟨#[]⟩) := by
            obtain ⟨b', off, e1, _, hc⟩ := (owns_strs1 HB7.out.1).cell (i := i) (by rw [List.length_take]; omega)
            cases e1
            have h := hc i (by rw [List.length_take]; omega)
            rw [HTN.out, Nat.zero_add] at h
            exact h
          clear hb7 hg7 ho7
          go_wp2_with fail
          go_roundw
          case rel => exact ⟨i + 1, by omega, by rw [HBW.out], HB7.out, HNE7.out, HE7, HD7⟩
          case measure => simp only [lenV]; omega
      · rcases hcase with ⟨u, hu, rfl⟩ | ⟨hu, z, rfl⟩
        · have hcase := hu
          obtain rfl : u = x := Option.some.inj (hu.symm.trans (HATi.out (by omega)))
          have hnb : ((n : Int) == 0) = false := by rw [beq_eq_false_iff_ne]; omega
          clear hn0
          have HB5 := Lib.hid (keptB HBD.out hg5 (fun k hk e => (HNE.out k hk).2 (by injection e with e; exact e.symm)) (fun k hk => by cases hk; exact hbB))
          have HE5 := Lib.hid (HEN.out.grown hg5)
          have HD5 := Lib.hid hd5
          have hB5 := HB5.out.2.size
          clear hg5 hd5 hcase hu HBD HEN HDA HFA
          have HA5 := Lib.hid (HB5.out.later (alloc_belowS w5 (.cells #[.string u] 9)))
          have HN1 : Hid ([Value.string u].length = 1 * 1) := Lib.hid rfl
          have HN2 : Hid (∀ y ∈ [Value.string u], y.oneCell' = true) := Lib.hid (fun y hy => by rw [List.mem_singleton.1 hy]; rfl)
          go_wp2_with (at_builtin; refine wpList_appM rfl (.tmp 33) (.tmp 35) rfl Tryz.underlying48 Tryz.infoStr rfl (by decide) rfl HA5.out rfl (Src.lit _) HN1.out HN2.out ?d1 ?d2 ?d3)
          case d1 => unfold maxLen; omega
          case d2 => omega
          intro v7 w7 hb7 hg7 ho7
          have HB7 : Hid (Bld 9 1 wB w7 v7 (i + 1) (strVals (L.take (i + 1)))) := Lib.hid (by
            rw [HTK.out, strVals_app]; exact hb7)
          have HG7 := Lib.hid ((World.grownBy_alloc w5 (.cells #[.string u] 9) (Value.slice go i co).ownBlock).trans hg7)
          have HE7 : Hid (EnvF w7 b p (k : Nat) a cap R) := Lib.hid (HE5.out.onto HRB.out HTB.out HB7.out.2 HG7.out (fun e => (HNE.out p e).1 rfl))
          have HD7 : Hid (DeadAt R k b w7) := Lib.hid (HD5.out.kept2 HG7.out (fun e => (HNE.out b e.symm).2 rfl))
          have HNE7 : Hid (NeB v7 p b) := Lib.hid (by
            rcases ho7 with h | h
            · intro k hk; exact HNE.out k (h ▸ hk)
            · intro k hk
              have e := Option.some.inj (h.symm.trans hk)
              have e2 : (w5.alloc (.cells #[.string u] 9)).heap.size = w5.heap.size + 1 := by simp
              have h1 := HE5.out.lt
              have h2 := HD5.out.lt
              omega)
          obtain ⟨g7, c7, rfl⟩ := owns_slot HB7.out.1 (by omega)
          have hc7 : w7.cell? ⟨g7, i, none⟩ = some (.string u) := by
            obtain ⟨b', off, e1, _, hc⟩ := (owns_strs1 HB7.out.1).cell (i := i) (by rw [List.length_take]; omega)
            cases e1
            have h := hc i (by rw [List.length_take]; omega)
            rw [HTN.out, Nat.zero_add] at h
            exact h
          clear hb7 hg7 ho7
          go_wp2_with fail
          go_roundw
          case rel => exact ⟨i + 1, by omega, by rw [HBW.out], HB7.out, HNE7.out, HE7, HD7⟩
          case measure => simp only [lenV]; omega
        · have h9 := HATi.out (by omega)
          rw [hu] at h9
          cases h9
    · obtain rfl : i = L.length := by omega
      have HF : Hid (RetSl 9 1 L.length (strVals L) wB (.returned (.slice go L.length co)) wr) := Lib.hid (by
        have h1 := HBD.out
        rw [List.take_length] at h1
        exact h1.ret)
      go_wp2_with fail
      go_ret
      exact HF.out
end Go.Proofs.YtgoeadgpbidgiaaGreatDoor
