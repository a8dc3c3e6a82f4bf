/-
  A turn of the completion: what was connected stays connected, below the same words.
-/
import Derived.Test.YtgoeadgpbidgiaaGreatClp21
import Derived.Test.YtgoeadgpbidgiaaGreatClp22
import Derived.Test.YtgoeadgpbidgiaaGreatClp15
import Derived.Test.YtgoeadgpbidgiaaGreatClp18
import Derived.Test.YtgoeadgpbidgiaaGreatClp13
namespace Go.Proofs.YtgoeadgpbidgiaaGreat
open Go.RowKit Go.Maps
set_option linter.unusedVariables false
/-- the words sorted -/
def srtB (S : List ByteArray) : List ByteArray := ((blsW S).mergeSort fun x y => !ltW y x).map fun x => ⟨x.toArray⟩
theorem srtB_len (S : List ByteArray) : (srtB S).length = S.length := by unfold srtB blsW; rw [List.length_map, List.length_mergeSort, List.length_map]
theorem wt_nf {kn : Int} {R : List RulD} (hc : ComplP kn R) {u : ByteArray} (hu : wordOkB kn u = true) (hne : nfC R u ≠ u) : wt (nfC R u).data.toList < wt u.data.toList := by
  have hr := nfC_red hc.1.weak hu
  have hd := sys_dwn hc.1
  rcases red_cases hr.1 with e | ⟨x, s, r⟩
  · exact absurd (ba_lists e) hne
  · have h3 := hd.stp s
    have h4 := r.le hd
    omega
theorem srtB_head {kn : Int} {n : Nat} {R : List RulD} {u : ByteArray} (hc : ComplP kn R) (hn : n ≤ 16) (hu : wordOkB kn u = true) (hun : u.size ≤ n) {S : List ByteArray} (hpos : 0 < S.length) (hS : ∀ v, v ∈ S ↔ ReachL R n u.data.toList v.data.toList) : nthS (srtB S) 0 = nfC R u := by
  have hlen := srtB_len S
  have hw := sort_weak (blsW S)
  have hmem : ∀ x, x ∈ (blsW S).mergeSort (fun x y => !ltW y x) ↔ x ∈ blsW S := fun x => List.mem_mergeSort
  unfold srtB at hlen ⊢
  generalize (blsW S).mergeSort (fun x y => !ltW y x) = z at *
  cases z with
  | nil => simp at hlen; omega
  | cons x0 z =>
    have h0 := (hmem x0).1 (List.mem_cons_self ..)
    unfold blsW at h0 hmem
    obtain ⟨v, hv, rfl⟩ := List.mem_map.1 h0
    have hvv : (⟨(blW v).toArray⟩ : ByteArray) = v := ba_lists rfl
    show (⟨(blW v).toArray⟩ : ByteArray) = nfC R u
    rw [hvv]
    obtain ⟨h1, h2, h3⟩ := (reach_iff hc hn hu hun).1 ((hS v).1 hv)
    have hnr := nfC_red hc.1.weak hu
    have hnw := nfC_word hc.1.weak hu
    have hself := nfC_self hc hnw hnr.2
    have hnn : (nfC R u).size ≤ n := by
      by_cases e : nfC R u = u
      · rw [e]; exact hun
      · have h4 := wt_len (wt_nf hc hu e)
        have e1 : (nfC R u).data.toList.length = (nfC R u).size := rfl
        have e2 : u.data.toList.length = u.size := rfl
        omega
    have hf := (hS (nfC R u)).2 ((reach_iff hc hn hu hun).2 ⟨hnw, hnn, hself⟩)
    have hfz := (hmem (blW (nfC R u))).2 (List.mem_map.2 ⟨_, hf, rfl⟩)
    by_cases e : nfC R v = v
    · rw [← e, h3]
    · exfalso
      have hlt := wt_nf hc h1 e
      rw [h3] at hlt
      rcases List.mem_cons.1 hfz with e | hz
      · have e2 : wt (nfC R u).data.toList = wt v.data.toList := congrArg wt e
        omega
      · have h5 := (List.pairwise_cons.1 hw).1 _ hz
        rw [show ltW (blW (nfC R u)) (blW v) = true from wt_ltW hlt] at h5
        cases h5
theorem sortS_any (S : List ByteArray) (base g cap : Nat) (w : World) (h : w.ownsRow base 9 1 (.slice (some ⟨g, 0, none⟩) S.length cap) S.length (strVals S)) (hlen : S.length ≤ 2 ^ 40) :
    Calls Tryz.prog 26 #[.slice (some ⟨g, 0, none⟩) S.length cap, .func (.func 27) #[] #[]] w fun e w' => e = .returned (.tuple #[]) ∧ w'.ownsRow base 9 1 (.slice (some ⟨g, 0, none⟩) S.length cap) S.length (strVals (srtB S)) ∧ w.grownBy w' (some g) := by
  have hb : (blsW S).length = S.length := by simp [blsW]
  have h2 := sortW_anyF (blsW S) base g cap w (by rw [hb, ← strVals_encF]; exact h) (by omega)
  rw [hb] at h2
  refine h2.mono ?_
  rintro e w' ⟨rfl, ho, hg⟩
  refine ⟨rfl, ?_, hg⟩
  unfold srtB
  rw [← enc_strValsF]
  exact ho
theorem own_some {w : World} {base size n c : Nat} {T : TypeId} {a : Option Addr} {xs : List Value} (h : w.ownsRow base T size (.slice a n c) n xs) (hn : 0 < n) : ∃ g, a = some ⟨g, 0, none⟩ ∧ base ≤ g := by
  rcases h.2 with ⟨hv, _⟩ | ⟨g, cap', cur, hv, hb, _⟩
  · simp only [Value.slice.injEq] at hv
    omega
  · simp only [Value.slice.injEq] at hv
    exact ⟨g, hv.1, hb⟩
def RetEqW (R : List RulD) (u : ByteArray) (w : World) (e : Ending) (w' : World) : Prop := ∃ (T : List ByteArray) (aT : Option Addr) (cT : Nat), (0 < T.length ∧ nthS T 0 = nfC R u) ∧ e = .returned (.tuple #[.slice aT T.length cT, .bool true]) ∧ w'.ownsRow w.heap.size 9 1 (.slice aT T.length cT) T.length (strVals T) ∧ Below w.heap.size w w'
set_option maxHeartbeats 2000000 in
theorem implEqualWords_any (kn : Nat) (R : List RulD) (a : Option Addr) (cap n : Nat) (u : ByteArray) (w : World) (hl : RulesIn w a R) (hc : ComplP (kn : Int) R) (hn : n ≤ 3) (hu : wordOkB (kn : Int) u = true) (hun : u.size ≤ n) :
    Calls Tryz.prog 9 #[.agg #[.int .i64 (kn : Int), .slice a R.length cap], .string u, .int .i64 (n : Nat)] w (RetEqW R u w) := by
  have hk4 : kn ≤ 4 := by have := hc.1.1.1.1; omega
  have HIS := Lib.hid (fun W h => implIsSearched_any kn R a cap n u W h hc.1 hn hu hun)
  have HSE := Lib.hid (fun W h => search_any kn R a cap u n W h hc hu hun (by omega))
  have HC := Lib.hid hc
  have HU := Lib.hid hu
  have HB := Lib.hid (alloc_belowS w (.cells #[.int .i64 (kn : Int), .slice a R.length cap] 25))
  have HX : Hid (∀ W, Below (w.alloc (.cells #[.int .i64 (kn : Int), .slice a R.length cap] 25)).heap.size (w.alloc (.cells #[.int .i64 (kn : Int), .slice a R.length cap] 25)) W → (W.cell? ⟨w.heap.size, 0, none⟩ = some (.int .i64 (kn : Int)) ∧ W.cell? ⟨w.heap.size, 1, none⟩ = some (.slice a R.length cap)) ∧ RulesIn W a R) := Lib.hid (fun W hW => ⟨⟨by rw [hW.cell (by simp)]; simp, by rw [hW.cell (by simp)]; simp⟩, (hl.later HB.out).later hW⟩)
  clear hl hc hu
  go_enter Tryz.func9, Tryz.ntmps9
  go_upto_region 1 with fail
  generalize w.alloc (.cells #[.int .i64 (kn : Int), .slice a R.length cap] 25) = w1 at *
  obtain ⟨⟨s0, s1⟩, hR1⟩ := HX.out w1 (Below.refl _ _)
  have HR1 := Lib.hid hR1
  clear hR1
  go_wp2_with fail
  refine (HIS.out _ HR1.out).mono ?_
  rintro e w2 ⟨rfl, hb2⟩
  have HB2 := Lib.hid hb2
  clear s0 s1 hb2
  obtain ⟨⟨s0, s1⟩, hR2⟩ := HX.out w2 HB2.out
  have HR2 := Lib.hid hR2
  clear hR2
  go_wp2_with fail
  refine (HSE.out _ HR2.out).mono ?_
  rintro e w3 ⟨mv, S, aS, cS, hS, rfl, ho, hb3⟩
  obtain ⟨g, rfl, hgb⟩ := own_some ho hS.2.1
  have hfew : S.length ≤ (up kn n).length := nodup_len hS.1 (fun v hv => by
    obtain ⟨h1, h2, _⟩ := (reach_iff HC.out (by omega) HU.out hun).1 ((hS.2.2.2 v).1 hv)
    exact (mem_up hk4).2 ⟨(wordOk_iff.1 h1).2.2, h2⟩)
  have hul := up_len hk4 n (by omega)
  have HSO := Lib.hid (sortS_any S w2.heap.size g cS w3 ho (by omega))
  have HB3 := Lib.hid (Below.now HB2.out hb3)
  have HHD := Lib.hid (srtB_head HC.out (by omega) HU.out hun hS.2.1 hS.2.2.2)
  have HPO := Lib.hid hS.2.1
  clear ho hb3 hS s0 s1 hfew hul
  go_wp2_with fail
  refine HSO.out.mono ?_
  rintro e w4 ⟨rfl, ho4, hg4⟩
  have F : Hid (RetEqW R u w (.returned (.tuple #[.slice (some ⟨g, 0, none⟩) S.length cS, .bool true])) w4) := Lib.hid ⟨srtB S, some ⟨g, 0, none⟩, cS, ⟨by rw [srtB_len]; exact HPO.out, HHD.out⟩, by rw [srtB_len], by rw [srtB_len]; exact owns_mono ho4 (Nat.le_trans HB.out.size HB2.out.size), Below.now HB.out (HB3.out.grown hg4 HB3.out.size (fun k hk => by cases hk; exact Nat.le_trans HB2.out.size hgb))⟩
  clear ho4 hg4
  go_wp2_with fail
  refine bodyPost_ret (v := .tuple #[.slice (some ⟨g, 0, none⟩) S.length cS, .bool true]) ?_ rfl F.out
  simp [results, Tryz.results9, go_sem]
end Go.Proofs.YtgoeadgpbidgiaaGreat
namespace Go.Proofs.YtgoeadgpbidgiaaGreat
open Go.RowKit Go.Maps
set_option linter.unusedVariables false
abbrev OwnB (w : World) (b m : Nat) (D : DataW Unit) : Prop := w.ownsMap Tryz.prog 9 (plainElem (H := Unit) Tryz.prog 4) b m D
theorem zeroBoolC (w : World) : (zeroValue 4).run Tryz.prog w = .ok (.bool false) w := by kernel_rfl
theorem lookBoolC {w : World} {b n : Nat} {D : DataW Unit} (h : OwnB w b n D) {key : Value} {kl : Lit} (hkey : keyOf Tryz.prog 9 key = some kl) {c : Bool} (hc : D.atKey kl (.lit (.bool false)) = .lit (.bool c)) : (Instr.lookup 49 (.map (some b)) key false).run Tryz.prog w = .ok (.bool c) w := by
  obtain ⟨v, ps, hrun, hv⟩ := h.lookup keySG Tryz.underlying49 (zeroBoolC w) (plainElem_bool Tryz.underlying4 false) hkey
  rw [hc] at hv
  obtain ⟨c', rfl, h2⟩ := plainBool_inv hv
  have h3 : c = c' := by simpa using h2
  rw [h3]; exact hrun
theorem wpList_lookB {w : World} {ops : Array Oper} {rest : List Oper} {o : Oper} {a : Act} {Q : Exit → Act → World → Prop} (hg : o.guard = none) (m x : Operand) (hop : o.op = Op.lookup 49 m x false) (b n : Nat) (D : DataW Unit)
    (hm : a.eval m = .map (some b)) (hown : OwnB w b n D) (key : Value) (kl : Lit) (hx : a.eval x = key) (hkey : keyOf Tryz.prog 9 key = some kl) {c : Bool} (hc : D.atKey kl (.lit (.bool false)) = .lit (.bool c))
    (hK : wpList Tryz.prog ops Q rest (a.put o.dst (.bool c)) w) :
    wpList Tryz.prog ops Q (o :: rest) a w := by
  refine wpList_plain hg fun K' hK' => ?_
  have hrun := lookBoolC hown hkey hc
  unfold Oper.wp
  simp [execOp, hop, hm, hx, hrun, Result.andThen]
  exact hK' _ _ hK
theorem row_mapB {w : World} {base : Nat} {T : TypeId} {size : Nat} {v : Value} {n : Nat} {xs : List Value} {b m : Nat} {D : DataW Unit} (h : w.ownsRow base T size v n xs) (hm : OwnB w b m D) : some b ≠ v.ownBlock := fun e => by
  obtain ⟨es, clock, hb, _⟩ := hm
  rcases h.2 with ⟨rfl, _⟩ | ⟨g, cap, cur, rfl, _, hg, _⟩
  · cases e
  · obtain rfl : b = g := by simpa [Value.ownBlock] using e
    rw [hg] at hb
    cases hb
theorem row_upd {w w' : World} {base : Nat} {T : TypeId} {size : Nat} {v : Value} {n : Nat} {xs : List Value} {b m : Nat} {D : DataW Unit} (h : w.ownsRow base T size v n xs) (hm : OwnB w b m D) (hg : w.grownBy w' (some b)) : w'.ownsRow base T size v n xs :=
  h.kept hg (by
    cases e : v.ownBlock with
    | none => exact .inl rfl
    | some k => exact .inr (fun e2 => row_mapB h hm (by rw [e, e2])))
/-- the keys of the map that was met -/
def MetD (D : DataW Unit) (S : List ByteArray) : Prop := ∀ v, (v ∈ S → D.atKey (keyL v) (.lit (.bool false)) = .lit (.bool true)) ∧ (v ∉ S → D.atKey (keyL v) (.lit (.bool false)) = .lit (.bool false))
theorem MetD.nil : MetD (.map []) [] := fun v => ⟨fun h => (by cases h), fun _ => rfl⟩
theorem MetD.put {D : DataW Unit} {S : List ByteArray} (h : MetD D S) (hD : IsMap D) (v : ByteArray) : MetD (D.put (keyL v) (.lit (.bool true))) (S ++ [v]) := fun u => by
  rw [List.mem_append, List.mem_singleton]
  by_cases e : u = v
  · subst e
    exact ⟨fun _ => atKey_put_same hD (by trivial) _ _, fun h2 => absurd (.inr rfl) h2⟩
  · rw [atKey_put_other (fun e2 => e (keyL_inj e2))]
    exact ⟨fun h2 => (h u).1 (h2.resolve_right e), fun h2 => (h u).2 (fun h3 => h2 (.inl h3))⟩
/-- the words that were met after a class more -/
theorem met_next {k : Int} {R : List RulD} {n j : Nat} {L S T : List ByteArray} {x : ByteArray} (h : MetW k R n L j S) (hj : j < L.length) (hx : nthS L j = x) (hT : ∀ v, v ∈ T ↔ wordOkB k v = true ∧ v.size ≤ n ∧ nfC R v = nfC R x) : MetW k R n L (j + 1) (S ++ T) := fun v => by
  rw [List.mem_append, h, hT]
  constructor
  · rintro (⟨h1, h2, i, hi, hil, e⟩ | ⟨h1, h2, e⟩)
    · exact ⟨h1, h2, i, by omega, hil, e⟩
    · exact ⟨h1, h2, j, by omega, hj, by rw [hx, e]⟩
  · rintro ⟨h1, h2, i, hi, hil, e⟩
    rcases Nat.lt_or_ge i j with h3 | h3
    · exact .inl ⟨h1, h2, i, h3, hil, e⟩
    · obtain rfl : i = j := by omega
      exact .inr ⟨h1, h2, by rw [← e, hx]⟩
theorem met_same {k : Int} {R : List RulD} {n j : Nat} {L S : List ByteArray} {x : ByteArray} (h : MetW k R n L j S) (hj : j < L.length) (hx : nthS L j = x) (hS : x ∈ S) : MetW k R n L (j + 1) S := fun v => by
  obtain ⟨_, _, i0, hi0, hil0, e0⟩ := (h x).1 hS
  rw [h]
  constructor
  · rintro ⟨h1, h2, i, hi, hil, e⟩
    exact ⟨h1, h2, i, by omega, hil, e⟩
  · rintro ⟨h1, h2, i, hi, hil, e⟩
    rcases Nat.lt_or_ge i j with h3 | h3
    · exact ⟨h1, h2, i, h3, hil, e⟩
    · obtain rfl : i = j := by omega
      exact ⟨h1, h2, i0, hi0, hil0, by rw [e0, ← hx, e]⟩
theorem clsTo_le (R : List RulD) (L : List ByteArray) (j : Nat) : clsTo R L j ≤ L.length := by
  unfold clsTo
  exact Nat.le_trans (List.length_filter_le _ _) (by rw [List.length_take]; omega)
set_option maxRecDepth 100000 in
set_option maxHeartbeats 4000000 in
theorem implCountClassesUpTo_any (kn : Nat) (R : List RulD) (a : Option Addr) (cap n : Nat) (w : World) (hl : RulesIn w a R) (hc : ComplP (kn : Int) R) (hn : n ≤ 3) :
    Calls Tryz.prog 6 #[.agg #[.int .i64 (kn : Int), .slice a R.length cap], .int .i64 (n : Nat)] w fun e w' => e = .returned (.int .i64 (growL R kn n).sum) ∧ Below w.heap.size w w' := by
  have hk14 := hc.1.1.1.1
  have hk4 : kn ≤ 4 := by omega
  have hSOK := Lib.hid (fun W h => implSearchOk_any kn R a cap n W h hc.1 hn)
  have HWU := Lib.hid (fun W => wordsUpTo_any kn n W hk4 (by omega))
  have hul : (up kn n).length ≤ 589824 := by have := up_len hk4 n (by omega); omega
  have HOK : Hid (∀ j, j < (up kn n).length → wordOkB (kn : Int) (nthS (up kn n) j) = true ∧ (nthS (up kn n) j).size ≤ n) := Lib.hid (fun j hj => by
    obtain ⟨h1, h2⟩ := (mem_up hk4).1 (nth_mem hj)
    exact ⟨wordOk_iff.2 ⟨hk14, by omega, h1⟩, h2⟩)
  have HSE := Lib.hid (fun u hu hun W h => search_any kn R a cap u n W h hc hu hun (by omega))
  have HKY := Lib.hid (fun (v : ByteArray) (hv : v.size ≤ 16) => keyOkG v (by unfold maxLen; omega))
  have HSUM := Lib.hid (clsTo_all (sys_ne hc.1.1) (sysG_of hc.1).ne kn n)
  have HC := Lib.hid hc
  have HB := Lib.hid (alloc_belowS w (.cells #[.int .i64 (kn : Int), .slice a R.length cap] 25))
  have HX : Hid (∀ W, Below (w.alloc (.cells #[.int .i64 (kn : Int), .slice a R.length cap] 25)).heap.size (w.alloc (.cells #[.int .i64 (kn : Int), .slice a R.length cap] 25)) W → (W.cell? ⟨w.heap.size, 0, none⟩ = some (.int .i64 (kn : Int)) ∧ W.cell? ⟨w.heap.size, 1, none⟩ = some (.slice a R.length cap)) ∧ RulesIn W a R) := Lib.hid (fun W hW => ⟨⟨by rw [hW.cell (by simp)]; simp, by rw [hW.cell (by simp)]; simp⟩, (hl.later HB.out).later hW⟩)
  clear hl hc hk14
  have hmm := @run_makeMap Tryz.prog
  go_enter Tryz.func6, Tryz.ntmps6
  go_upto_region 1 with fail
  generalize w.alloc (.cells #[.int .i64 (kn : Int), .slice a R.length cap] 25) = w1 at *
  obtain ⟨⟨s0, s1⟩, hR1⟩ := HX.out w1 (Below.refl _ _)
  have HR1 := Lib.hid hR1
  clear hR1
  go_wp2_with fail
  refine (hSOK.out _ HR1.out).mono ?_
  rintro e w2 ⟨rfl, hb2⟩
  have HB3 := Lib.hid (Below.now hb2 (alloc_belowS w2 (.map #[] 0)))
  have HM3 : Hid (OwnB (w2.alloc (.map #[] 0)) w2.heap.size 0 (.map [])) := Lib.hid (World.ownsMap_made _ _ _ _)
  have hbw : w1.heap.size ≤ w2.heap.size := hb2.size
  clear s0 s1 hb2 HR1 hSOK
  go_upto_region 5 with fail
  obtain ⟨b, hb⟩ : ∃ b, w2.heap.size = b := ⟨_, rfl⟩
  rw [hb] at hbw HM3
  rw [hb]
  generalize w2.alloc (.map #[] 0) = w3 at *
  clear hb
  obtain ⟨⟨s0, s1⟩, -⟩ := HX.out w3 HB3.out
  go_wp2_with fail
  refine (HWU.out _).mono ?_
  rintro e w4 ⟨aW, cW, rfl, hoW, hb4⟩
  have hpos : 0 < (up kn n).length := List.length_pos_of_mem ((mem_up hk4).2 ⟨fun x hx => (by cases hx), Nat.zero_le _⟩ : (⟨#[]⟩ : ByteArray) ∈ up kn n)
  obtain ⟨gW, rfl, hgW⟩ := own_some hoW hpos
  have HB4 := Lib.hid (Below.now HB3.out hb4)
  have HM4 : Hid (OwnB w4 b 0 (.map [])) := Lib.hid (HM3.out.kept (belowGrown hb4) (by simp))
  have HW4 := Lib.hid hoW
  have HD4 := Lib.hid MetD.nil
  have HS4 : Hid (MetW (kn : Int) R n (up kn n) 0 []) := Lib.hid (fun v => ⟨fun h => (by cases h), fun ⟨_, _, i, hi, _⟩ => (by omega)⟩)
  clear s0 s1 hoW hb4 HB3 HM3 HWU
  generalize hg3 : w3.heap.size = g3 at *
  clear hg3
  go_wp2_with fail
  go_loopw [5, 23] (fun cv iv wr => ∃ (j m : Nat) (D : DataW Unit) (S : List ByteArray), j ≤ (up kn n).length ∧ m ≤ j * 589824 ∧ cv = .int .i64 ((clsTo R (up kn n) j : Nat) : Int) ∧ iv = .int .i64 (j : Nat) ∧ Hid (Below w1.heap.size w1 wr) ∧ Hid (OwnB wr b m D) ∧ Hid (wr.ownsRow g3 9 1 (.slice (some ⟨gW, 0, none⟩) (up kn n).length cW) (up kn n).length (strVals (up kn n))) ∧ Hid (MetD D S) ∧ Hid (MetW (kn : Int) R n (up kn n) j S)) (fun _ iv _ => (up kn n).length - (intOf iv).toNat)
  case atStart => exact ⟨0, 0, .map [], [], Nat.zero_le _, Nat.zero_le _, rfl, rfl, HB4, HM4, HW4, HD4, HS4⟩
  case round =>
    clear HB4 HM4 HW4 HD4 HS4
    obtain ⟨j, m, D, S, hj, hm, rfl, rfl, HB5, HM5, HW5, HD5, HS5⟩ := hrel
    have hcl := clsTo_le R (up kn n) j
    by_cases hlt : j < (up kn n).length
    · obtain ⟨x, hx⟩ : ∃ x, nthS (up kn n) j = x := ⟨_, rfl⟩
      obtain ⟨bq, oq, hbo, hbq, hcq⟩ := (owns_strs HW5.out).cell hlt
      have y0 := hcq j hlt
      have hbo2 : bq = gW ∧ oq = 0 := by cases hbo; exact ⟨rfl, rfl⟩
      rw [hbo2.1, hbo2.2, hx, Nat.zero_add] at y0
      have hjl : (j : Int) < ((up kn n).length : Int) := by omega
      obtain ⟨hxw, hxn⟩ := HOK.out j hlt
      have hmi := met_irr HC.out (by omega) HS5.out hlt
      have hcs := clsTo_succ (R := R) hlt
      rw [hx] at hxw hxn hmi hcs
      have hkx := HKY.out x (by omega)
      have HXE := Lib.hid hx
      have HXW := Lib.hid hxw
      clear hcq hx hxw hbo hbo2 hbq
      by_cases hS : x ∈ S
      · have hne : ¬ irrB R x = true := by rw [hmi.1 hS]; decide
        have HCS : Hid (clsTo R (up kn n) (j + 1) = clsTo R (up kn n) j) := Lib.hid (by rw [hcs, if_neg hne, Nat.add_zero])
        clear hcs
        have hat := (HD5.out x).1 hS
        have HS6 := Lib.hid (met_same HS5.out hlt HXE.out hS)
        clear hmi
        go_wp2_with (at_lookup; refine wpList_lookB rfl _ _ rfl b m D rfl HM5.out _ _ rfl hkx hat ?_)
        go_roundw
        case rel => exact ⟨j + 1, m, D, S, by omega, Nat.le_trans hm (Nat.mul_le_mul_right _ (Nat.le_succ j)), congrArg (fun z : Nat => Value.int .i64 (z : Int)) HCS.out.symm, by go_num, HB5, HM5, HW5, HD5, HS6⟩
        case measure => simp [intOf]; omega
      · have hir : irrB R x = true := by
          cases h : irrB R x
          · exact absurd (hmi.2 h) hS
          · rfl
        have HCS : Hid (clsTo R (up kn n) (j + 1) = clsTo R (up kn n) j + 1) := Lib.hid (by rw [hcs, if_pos hir])
        clear hcs
        have hat := (HD5.out x).2 hS
        obtain ⟨⟨s0, s1⟩, hR5⟩ := HX.out wr HB5.out
        have HR5 := Lib.hid hR5
        clear hmi hir hR5
        go_wp2_with (at_lookup; refine wpList_lookB rfl _ _ rfl b m D rfl HM5.out _ _ rfl hkx hat ?_)
        refine (HSE.out x HXW.out hxn _ HR5.out).mono ?_
        rintro e w6 ⟨mv, T, aT, cT, hT, rfl, hoT, hb6⟩
        obtain ⟨gT, rfl, hgT⟩ := own_some hoT hT.2.1
        have HTM : Hid (∀ v, v ∈ T ↔ wordOkB (kn : Int) v = true ∧ v.size ≤ n ∧ nfC R v = nfC R x) := Lib.hid (fun v => by rw [hT.2.2.2 v, reach_iff HC.out (by omega) HXW.out hxn])
        have hTl : T.length ≤ (up kn n).length := nodup_len hT.1 (fun v hv => by
          obtain ⟨h1, h2, _⟩ := (HTM.out v).1 hv
          exact (mem_up hk4).2 ⟨(wordOk_iff.1 h1).2.2, h2⟩)
        have HB6 := Lib.hid (Below.now HB5.out hb6)
        have HM6 : Hid (OwnB w6 b m D) := Lib.hid (HM5.out.kept (belowGrown hb6) (by simp))
        have HW6 := Lib.hid (owns_later HW5.out hb6)
        have HT6 := Lib.hid hoT
        have HD6 : Hid (MetD D (S ++ T.take 0)) := Lib.hid (by rw [List.take_zero, List.append_nil]; exact HD5.out)
        clear s0 s1 y0 hT hoT hb6 hat hkx HR5 HM5 HW5 HD5 HB5
        generalize hg5 : wr.heap.size = g5 at *
        clear hg5
        go_wp2_with fail
        generalize hW : wr = wr0 at *
        clear hW
        go_loopw [41] (fun iv wr => ∃ (t m2 : Nat) (D2 : DataW Unit), t ≤ T.length ∧ m2 ≤ m + t ∧ iv = .int .i64 (t : Nat) ∧ Hid (Below w1.heap.size w1 wr) ∧ Hid (OwnB wr b m2 D2) ∧ Hid (wr.ownsRow g3 9 1 (.slice (some ⟨gW, 0, none⟩) (up kn n).length cW) (up kn n).length (strVals (up kn n))) ∧ Hid (wr.ownsRow g5 9 1 (.slice (some ⟨gT, 0, none⟩) T.length cT) T.length (strVals T)) ∧ Hid (MetD D2 (S ++ T.take t))) (fun iv _ => T.length - (intOf iv).toNat)
        case atStart => exact ⟨0, m, D, Nat.zero_le _, by omega, rfl, HB6, HM6, HW6, HT6, HD6⟩
        case round =>
          clear HB6 HM6 HW6 HT6 HD6
          obtain ⟨t, m2, D2, ht, hm2, rfl, HB7, HM7, HW7, HT7, HD7⟩ := hrel
          by_cases hlt2 : t < T.length
          · obtain ⟨y, hy⟩ : ∃ y, nthS T t = y := ⟨_, rfl⟩
            obtain ⟨bq, oq, hbo, hbq, hcq⟩ := (owns_strs HT7.out).cell hlt2
            have y0 := hcq t hlt2
            have hbo2 : bq = gT ∧ oq = 0 := by cases hbo; exact ⟨rfl, rfl⟩
            rw [hbo2.1, hbo2.2, hy, Nat.zero_add] at y0
            have htl : (t : Int) < (T.length : Int) := by omega
            have hyn : y.size ≤ n := by rw [← hy]; exact ((HTM.out _).1 (nth_mem hlt2)).2.1
            have hky := HKY.out y (by omega)
            have hsz : m2 < maxLen := by unfold maxLen; omega
            have hye : y = T[t] := by rw [← hy]; exact nthS_lt hlt2
            have HD8 : Hid (MetD (D2.put (keyL y) (.lit (.bool true))) (S ++ T.take (t + 1))) := Lib.hid (by
              rw [take_one hlt2, ← List.append_assoc, ← hye]
              exact HD7.out.put HM7.out.isMap y)
            clear hcq hy hye hbo hbo2 hbq
            go_wp2_with (at_mapUpdate; (refine wpList_mapUpdate_own _ rfl _ _ _ 49 rfl 9 4 keySG Tryz.underlying49 _ b m2 D2 rfl HM7.out hsz _ _ _ rfl rfl hky (.lit (.bool true)) [] (plainElem_bool Tryz.underlying4 true) ?_))
            intro w8 hown8 hgr8
            have HM8 := Lib.hid hown8
            have HB8 := Lib.hid (HB7.out.grown hgr8 HB7.out.size (fun k hk => by cases hk; exact hbw))
            have HW8 := Lib.hid (row_upd HW7.out HM7.out hgr8)
            have HT8 := Lib.hid (row_upd HT7.out HM7.out hgr8)
            clear hown8 hgr8 HM7 HB7 HW7 HT7 HD7 y0
            go_wp2_with fail
            go_roundw
            case rel => exact ⟨t + 1, m2 + 1, _, by omega, by omega, by go_num, HB8, HM8, HW8, HT8, HD8⟩
            case measure => simp [intOf]; omega
          · obtain rfl : t = T.length := by omega
            have HS8 : Hid (MetW (kn : Int) R n (up kn n) (j + 1) (S ++ T.take T.length)) := Lib.hid (by
              rw [List.take_length]
              exact met_next HS5.out hlt HXE.out HTM.out)
            go_wp2_with fail
            go_roundw
            case rel => exact ⟨j + 1, m2, D2, S ++ T.take T.length, by omega, by omega, by rw [HCS.out]; go_num, by go_num, HB7, HM7, HW7, HD7, HS8⟩
            case measure => simp [intOf]; omega
    · obtain rfl : j = (up kn n).length := by omega
      have HF := Lib.hid (Below.now HB.out HB5.out)
      rw [HSUM.out]
      go_wp2_with fail
      go_ret
      exact ⟨rfl, HF.out⟩
end Go.Proofs.YtgoeadgpbidgiaaGreat
namespace Go.Proofs.YtgoeadgpbidgiaaGreat
open Go.RowKit
set_option linter.unusedVariables false
/-- equations that a completion may start from -/
def startP (k : Int) (E : List RulD) : Prop := (1 ≤ k ∧ k ≤ 4) ∧ E.length ≤ 12 ∧ ∀ r ∈ E, sideP k r
theorem startP.work {k : Int} {E : List RulD} (h : startP k E) : WorkP k [] E 0 :=
  ⟨⟨⟨⟨h.1, by simp⟩, fun r hr => by cases hr⟩, fun r hr => by cases hr⟩, by have := h.2.1; omega, fun q hq => (h.2.2 q hq).1, by omega⟩
/-- what StartWork hands back -/
def RetSt (k : Int) (E : List RulD) (w : World) (e : Ending) (w' : World) : Prop :=
  (startP k E ∧ ∃ aQ cQ, e = .returned (.tuple #[workVal k none 0 0 aQ E.length cQ 0, .bool true]) ∧ RulesIn w' aQ E ∧ Below w.heap.size w w') ∨
  (¬ startP k E ∧ e = .returned (.tuple #[workVal 0 none 0 0 none 0 0 0, .bool false]) ∧ Below w.heap.size w w')
/-- a box of four cells is set -/
def put4 (W : World) (g : Nat) (a b c d : Value) : World := (((W.setCell ⟨g, 0, none⟩ a).setCell ⟨g, 1, none⟩ b).setCell ⟨g, 2, none⟩ c).setCell ⟨g, 3, none⟩ d
theorem put4_sets {W : World} {g : Nat} {x0 x1 x2 x3 : Value} {T : TypeId} (h : W.heap[g]? = some (.cells #[x0, x1, x2, x3] T (0, 0))) (a b c d : Value) :
    (W.frozen? ⟨g, 0, none⟩ = false ∧ W.frozen? ⟨g, 1, none⟩ = false ∧ W.frozen? ⟨g, 2, none⟩ = false ∧ W.frozen? ⟨g, 3, none⟩ = false) ∧
    ((put4 W g a b c d).cell? ⟨g, 0, none⟩ = some a ∧ (put4 W g a b c d).cell? ⟨g, 1, none⟩ = some b ∧ (put4 W g a b c d).cell? ⟨g, 2, none⟩ = some c ∧ (put4 W g a b c d).cell? ⟨g, 3, none⟩ = some d) ∧
    (W.cell? ⟨g, 0, none⟩ = some x0 ∧ W.cell? ⟨g, 1, none⟩ = some x1 ∧ W.cell? ⟨g, 2, none⟩ = some x2 ∧ W.cell? ⟨g, 3, none⟩ = some x3) ∧
    (put4 W g a b c d).heap[g]? = some (.cells #[a, b, c, d] T (0, 0)) := by
  have e : (put4 W g a b c d).heap[g]? = some (.cells #[a, b, c, d] T (0, 0)) := by
    unfold put4 World.setCell
    simp [Array.getElem?_modify, h]
  refine ⟨⟨by simp [World.frozen?, h], by simp [World.frozen?, h], by simp [World.frozen?, h], by simp [World.frozen?, h]⟩, ⟨by simp [World.cell?, e], by simp [World.cell?, e], by simp [World.cell?, e], by simp [World.cell?, e]⟩, ⟨by simp [World.cell?, h], by simp [World.cell?, h], by simp [World.cell?, h], by simp [World.cell?, h]⟩, e⟩
theorem put4_owns {W : World} {base : Nat} {T : TypeId} {size : Nat} {v : Value} {n : Nat} {xs : List Value} (h : ownsOff W base T size v n xs) {g : Nat} (hg : g < base) (a b c d : Value) : ownsOff (put4 W g a b c d) base T size v n xs :=
  (((h.setBelow (show g < base from hg) a).setBelow (show g < base from hg) b).setBelow (show g < base from hg) c).setBelow (show g < base from hg) d
theorem put4_below {B : Nat} {w W : World} (h : Below B w W) {g : Nat} (hg : B ≤ g) (a b c d : Value) : Below B w (put4 W g a b c d) := (((h.setCell (show B ≤ g from hg) a).setCell (show B ≤ g from hg) b).setCell (show B ≤ g from hg) c).setCell (show B ≤ g from hg) d
set_option maxRecDepth 100000 in
set_option maxHeartbeats 4000000 in
theorem specStartWork_any (k : Int) (E : List RulD) (a : Option Addr) (cap : Nat) (w : World) (hl : RulesIn w a E) (hlen : E.length ≤ 2 ^ 40) (hz : SzR E) :
    Calls Tryz.prog 69 #[.int .i64 k, .slice a E.length cap] w (RetSt k E w) := by
  have HL := Lib.hid hl
  have HZ := Lib.hid hz
  have HW1 := Lib.hid (alloc_belowS w (.cells #[.int .i64 0, .slice none 0 0, .slice none 0 0, .int .i64 0] 74))
  have hsz : w.heap.size < (w.alloc (.cells #[.int .i64 0, .slice none 0 0, .slice none 0 0, .int .i64 0] 74)).heap.size := by simp
  have hat := alloc_at w (.cells #[.int .i64 0, .slice none 0 0, .slice none 0 0, .int .i64 0] 74)
  have HBK : Hid (∀ W, Below (w.alloc (.cells #[.int .i64 0, .slice none 0 0, .slice none 0 0, .int .i64 0] 74)).heap.size (w.alloc (.cells #[.int .i64 0, .slice none 0 0, .slice none 0 0, .int .i64 0] 74)) W → W.heap[w.heap.size]? = some (.cells #[.int .i64 0, .slice none 0 0, .slice none 0 0, .int .i64 0] 74 (0, 0))) := Lib.hid (fun W hW => (hW.block _ hsz).trans hat)
  have HIN := Lib.hid (fun W => l01In_any k 1 4 W)
  have HSD := Lib.hid (fun (r : RulD) W (h1 : r.1.size ≤ maxLen) (h2 : r.2.size ≤ maxLen) => specSidesOk_any k r.1 r.2 W h1 h2)
  have HNO : Hid (∀ W, Below (w.alloc (.cells #[.int .i64 0, .slice none 0 0, .slice none 0 0, .int .i64 0] 74)).heap.size (w.alloc (.cells #[.int .i64 0, .slice none 0 0, .slice none 0 0, .int .i64 0] 74)) W → ¬ startP k E → RetSt k E w (.returned (.tuple #[.agg #[.int .i64 0, .slice none 0 0, .slice none 0 0, .int .i64 0], .bool false])) (put4 W w.heap.size (.int .i64 0) (.slice none 0 0) (.slice none 0 0) (.int .i64 0))) :=
    Lib.hid (fun W hW hn => .inr ⟨hn, rfl, put4_below (Below.now HW1.out hW) (Nat.le_refl _) _ _ _ _⟩)
  have HS1 := Lib.hid hsz
  clear hl hz hat hsz
  go_enter Tryz.func69, Tryz.ntmps69
  go_wp2_with fail
  generalize w.alloc (.cells #[.int .i64 0, .slice none 0 0, .slice none 0 0, .int .i64 0] 74) = w1 at *
  refine (HIN.out _).mono ?_
  rintro e w2 ⟨rfl, rfl⟩
  cases hk : inB k 1 4
  · have F := Lib.hid (HNO.out _ (Below.refl _ _) (fun h => by have h1 := h.1; unfold inB at hk; simp at hk; omega))
    obtain ⟨⟨f0, f1, f2, f3⟩, ⟨u0, u1, u2, u3⟩, ⟨q0, q1, q2, q3⟩, _⟩ := put4_sets (HBK.out _ (Below.refl _ _)) (.int .i64 0) (.slice none 0 0) (.slice none 0 0) (.int .i64 0)
    unfold put4 at F u0 u1 u2 u3
    go_wp2_with fail
    refine bodyPost_ret (v := .tuple #[.agg #[.int .i64 0, .slice none 0 0, .slice none 0 0, .int .i64 0], .bool false]) ?_ rfl F.out
    simp [results, Tryz.results69, go_sem, u0, u1, u2, u3]
  · have hk2 : 1 ≤ k ∧ k ≤ 4 := by unfold inB at hk; simp at hk; omega
    have HK := Lib.hid hk2
    clear hk2 HIN
    by_cases h12 : 12 < E.length
    · have hd : decide ((12 : Int) < (E.length : Int)) = true := by simp; omega
      have hd2 : (12 : Int) < (E.length : Int) := by omega
      have F := Lib.hid (HNO.out _ (Below.refl _ _) (fun h => by have h1 := h.2.1; omega))
      obtain ⟨⟨f0, f1, f2, f3⟩, ⟨u0, u1, u2, u3⟩, ⟨q0, q1, q2, q3⟩, _⟩ := put4_sets (HBK.out _ (Below.refl _ _)) (.int .i64 0) (.slice none 0 0) (.slice none 0 0) (.int .i64 0)
      unfold put4 at F u0 u1 u2 u3
      go_wp2_with fail
      refine bodyPost_ret (v := .tuple #[.agg #[.int .i64 0, .slice none 0 0, .slice none 0 0, .int .i64 0], .bool false]) ?_ rfl F.out
      simp [results, Tryz.results69, go_sem, u0, u1, u2, u3]
    · have hd : decide ((12 : Int) < (E.length : Int)) = false := by simp; omega
      have hd2 : ¬ (12 : Int) < (E.length : Int) := by omega
      go_wp2_with fail
      go_loopw [19] (fun vi wr => ∃ i : Nat, i ≤ E.length ∧ vi = .int .i64 (i : Nat) ∧ Below w1.heap.size w1 wr ∧ Hid (∀ j, j < i → sideP k (nthR E j))) (fun vi _ => E.length - (intOf vi).toNat)
      case atStart => exact ⟨0, Nat.zero_le _, rfl, Below.refl _ _, Lib.hid (fun j hj => by omega)⟩
      case round =>
        obtain ⟨i, hi, rfl, hbw, HD⟩ := hrel
        have HB := Lib.hid hbw
        clear hbw
        by_cases hlt : i < E.length
        · obtain ⟨b, off, rfl, hb, k0, k1⟩ := rule_at HL.out (Below.now HW1.out HB.out) hlt
          have hz := HZ.out i hlt
          have HC := Lib.hid (fun W => HSD.out (nthR E i) W hz.1 hz.2)
          have HMEM := Lib.hid (nthR_mem hlt)
          have HDS : Hid (sideP k (nthR E i) → ∀ j, j < i + 1 → sideP k (nthR E j)) := Lib.hid (fun h j hj => by
            rcases Nat.lt_succ_iff_lt_or_eq.1 hj with h1 | rfl
            · exact HD.out j h1
            · exact h)
          clear hz
          generalize nthR E i = r at *
          have HB2 := Lib.hid (Below.now HB.out (alloc_belowS wr (.cells #[.string r.1, .string r.2] 67)))
          go_wp2_with fail
          refine (HC.out _).mono ?_
          rintro e w3 ⟨bb, hbb, rfl, hb3⟩
          have HBB := Lib.hid hbb
          have HB3 := Lib.hid (Below.now HB2.out hb3)
          clear hbb hb3 k0 k1
          cases bb
          · have F := Lib.hid (HNO.out _ HB3.out (fun h => by
              have h1 := h.2.2 r HMEM.out
              have := HBB.out.2 h1
              cases this))
            obtain ⟨⟨f0, f1, f2, f3⟩, ⟨u0, u1, u2, u3⟩, ⟨q0, q1, q2, q3⟩, _⟩ := put4_sets (HBK.out _ HB3.out) (.int .i64 0) (.slice none 0 0) (.slice none 0 0) (.int .i64 0)
            unfold put4 at F u0 u1 u2 u3
            go_wp2_with fail
            refine bodyPost_ret (v := .tuple #[.agg #[.int .i64 0, .slice none 0 0, .slice none 0 0, .int .i64 0], .bool false]) ?_ rfl F.out
            simp [results, Tryz.results69, go_sem, u0, u1, u2, u3]
          · have HD2 := Lib.hid (HDS.out (HBB.out.1 rfl))
            go_wp2_with fail
            go_roundw
            case rel => exact ⟨i + 1, by omega, by go_num, HB3.out, HD2⟩
            case measure => simp [intOf]; omega
        · obtain rfl : i = E.length := by omega
          have HP : Hid (startP k E) := Lib.hid ⟨HK.out, by omega, fun r hr => by
            obtain ⟨j, hj, rfl⟩ := mem_nthR hr
            exact HD.out j hj⟩
          have HE := Lib.hid (off_empty 67 2 wr _ (Below.refl _ _))
          have HB2 := Lib.hid (alloc_belowS wr (.cells #[] 67))
          have HSR := Lib.hid (src_rules (P := Tryz.prog) Tryz.underlying23 (HL.out.later (Below.now HW1.out (Below.now HB.out HB2.out))) cap)
          generalize hW : wr = wm at *
          clear hW
          go_wp2_with (at_builtin; (refine wpList_append_off2 rfl (.tmp 31) (.tmp 32) rfl Tryz.underlying23 Tryz.infoRule rfl (by decide) (by rfl) HE.out (by simp) (by rfl) HSR.out (by unfold maxLen; omega) (by omega) ?_; intro v2 w2 ho2 hg2 _; rw [Nat.zero_add, List.nil_append] at ho2; obtain ⟨va, vc, rfl⟩ := ho2.form; have k2 : Below wm.heap.size wm w2 := Below.grown HB2.out hg2 (by simp) (fun k hk => by simp [Value.ownBlock] at hk; omega); obtain ⟨⟨f0, f1, f2, f3⟩, ⟨u0, u1, u2, u3⟩, ⟨q0, q1, q2, q3⟩, _⟩ := put4_sets (HBK.out _ (Below.now HB.out k2)) (.int .i64 k) (.slice none 0 0) (.slice va E.length vc) (.int .i64 0); have HO2 := Lib.hid ho2; have K2 := Lib.hid k2; clear ho2 hg2 k2))
          have F : Hid (RetSt k E w (.returned (.tuple #[.agg #[.int .i64 k, .slice none 0 0, .slice va E.length vc, .int .i64 0], .bool true])) (put4 w2 w.heap.size (.int .i64 k) (.slice none 0 0) (.slice va E.length vc) (.int .i64 0))) := Lib.hid (.inl ⟨HP.out, va, vc, rfl, (put4_owns HO2.out (by have := HS1.out; have := HB.out.size; omega) _ _ _ _).cells, put4_below (Below.now HW1.out (Below.now HB.out K2.out)) (Nat.le_refl _) _ _ _ _⟩)
          unfold put4 at F u0 u1 u2 u3
          refine bodyPost_ret (v := .tuple #[.agg #[.int .i64 k, .slice none 0 0, .slice va E.length vc, .int .i64 0], .bool true]) ?_ rfl F.out
          simp [results, Tryz.results69, go_sem, u0, u1, u2, u3]
end Go.Proofs.YtgoeadgpbidgiaaGreat
namespace Go.Proofs.YtgoeadgpbidgiaaGreat
set_option linter.unusedVariables false
/-- two sets of rules as one -/
def Uni (S Q : Rs) : Rs := fun l r => S l r ∨ Q l r
/-- a turn that drops an equation whose sides are reduced to one word -/
structure TurnOld (S Q Q' : Rs) (l0 r0 a : Wd) : Prop where
  dwn : Dwn S
  pop : ∀ l r, Q l r → (l = l0 ∧ r = r0) ∨ Q' l r
  redl : Red S l0 a
  redr : Red S r0 a
theorem TurnOld.sim {S Q Q' : Rs} {l0 r0 a : Wd} (h : TurnOld S Q Q' l0 r0 a) {n : Nat} {u v : Wd} (s : Stp (Uni S Q) u v) (hu : wt u < n) (hv : wt v < n) : Conn (Uni S Q') n u v := by
  have key : ∀ {p q : Wd}, Red S p q → wt p < n → Conn (Uni S Q') n p q := fun hr => by
    induction hr with
    | refl => intro _; exact .refl _
    | step s _ ih =>
      intro hp
      have hd := h.dwn.stp s
      exact .fwd hp (by omega) (s.mono fun l r hl => .inl hl) (ih (by omega))
  obtain ⟨x, l, r, y, h1, rfl, rfl⟩ := s
  rcases h1 with h1 | h1
  · exact .fwd hu hv ⟨x, l, r, y, .inl h1, rfl, rfl⟩ (.refl _)
  · rcases h.pop _ _ h1 with ⟨rfl, rfl⟩ | h2
    · exact (key (h.redl.ctx x y) hu).trans (key (h.redr.ctx x y) hv).symm
    · exact .fwd hu hv ⟨x, l, r, y, .inr h2, rfl, rfl⟩ (.refl _)
theorem TurnOld.crit {S Q Q' : Rs} {l0 r0 a : Wd} (h : TurnOld S Q Q' l0 r0 a) (hc : Crit S (Uni S Q)) : Crit S (Uni S Q') :=
  ⟨fun l1 r1 l2 r2 x y h1 h2 e => (hc.inn l1 r1 l2 r2 x y h1 h2 e).sim (fun _ _ s hu hv => h.sim s hu hv), fun l1 r1 l2 r2 x t y h1 h2 e1 e2 e3 e4 e5 => (hc.acr l1 r1 l2 r2 x t y h1 h2 e1 e2 e3 e4 e5).sim (fun _ _ s hu hv => h.sim s hu hv)⟩
/-- the rules that are kept, and the new one -/
def AllR (kept : Rs) (ln rn : Wd) : Rs := fun l r => kept l r ∨ (l = ln ∧ r = rn)
/-- a turn that makes a rule -/
structure TurnNew (S Q S' Q' kept : Rs) (l0 r0 ln rn : Wd) : Prop where
  dwn : Dwn S
  sub : ∀ l r, kept l r → S l r
  pop : ∀ l r, Q l r → (l = l0 ∧ r = r0) ∨ Q' l r
  red : (Red S l0 ln ∧ Red S r0 rn) ∨ (Red S l0 rn ∧ Red S r0 ln)
  less : wt rn < wt ln
  old : ∀ l r, S l r → Q' l r ∨ ∃ r2, kept l r ∧ S' l r2 ∧ Red (AllR kept ln rn) r r2
  new : S' ln rn
  inv : ∀ l r2, S' l r2 → (l = ln ∧ r2 = rn) ∨ ∃ r, kept l r ∧ Red (AllR kept ln rn) r r2
  inn1 : ∀ l r x y, S' l r → ln = x ++ (l ++ y) → (x = [] ∧ y = [] ∧ r = rn) ∨ Q' rn (x ++ (r ++ y))
  inn2 : ∀ l r x y, S' l r → l = x ++ (ln ++ y) → (x = [] ∧ y = [] ∧ r = rn) ∨ Q' r (x ++ (rn ++ y))
  acr1 : ∀ l r x t y, S' l r → ln = x ++ t → l = t ++ y → t ≠ [] → x ≠ [] → y ≠ [] → Q' (rn ++ y) (x ++ r)
  acr2 : ∀ l r x t y, S' l r → l = x ++ t → ln = t ++ y → t ≠ [] → x ≠ [] → y ≠ [] → Q' (r ++ y) (x ++ rn)
section
variable {S Q S' Q' kept : Rs} {l0 r0 ln rn : Wd}
theorem TurnNew.dall (h : TurnNew S Q S' Q' kept l0 r0 ln rn) : Dwn (AllR kept ln rn) := fun l r hl => by
  rcases hl with hl | ⟨rfl, rfl⟩
  · exact h.dwn _ _ (h.sub _ _ hl)
  · exact h.less
theorem TurnNew.dnew (h : TurnNew S Q S' Q' kept l0 r0 ln rn) : Dwn S' := fun l r hl => by
  rcases h.inv _ _ hl with ⟨rfl, rfl⟩ | ⟨r1, h1, h2⟩
  · exact h.less
  · have h3 := h2.le h.dall
    have h4 := h.dwn _ _ (h.sub _ _ h1)
    omega
theorem TurnNew.simS (h : TurnNew S Q S' Q' kept l0 r0 ln rn) : ∀ (k : Nat) (u v : Wd), wt u < k → Stp S u v → ∀ n, wt u < n → Conn (Uni S' Q') n u v
  | 0, u, v, hk, _, _, _ => by omega
  | k + 1, u, v, hk, s, n, hn => by
    have hd := h.dwn.stp s
    obtain ⟨x, l, r, y, h1, rfl, rfl⟩ := s
    rcases h.old _ _ h1 with h2 | ⟨r2, h2, h3, h4⟩
    · exact .fwd hn (by omega) ⟨x, l, r, y, .inr h2, rfl, rfl⟩ (.refl _)
    · have key : ∀ {p q : Wd}, Red (AllR kept ln rn) p q → wt p < k → wt p < n → Conn (Uni S' Q') n p q := fun hr => by
        induction hr with
        | refl => intro _ _; exact .refl _
        | step s _ ih =>
          intro hp1 hp2
          have hd2 := h.dall.stp s
          refine Conn.trans ?_ (ih (by omega) (by omega))
          obtain ⟨x2, l2, r2, y2, h5, rfl, rfl⟩ := s
          rcases h5 with h5 | ⟨rfl, rfl⟩
          · exact h.simS k _ _ hp1 ⟨x2, l2, r2, y2, h.sub _ _ h5, rfl, rfl⟩ n hp2
          · exact .fwd hp2 (by omega) ⟨x2, _, _, y2, .inl h.new, rfl, rfl⟩ (.refl _)
      have h5 := (h4.ctx x y).le h.dall
      exact .fwd hn (by omega) ⟨x, l, r2, y, .inl h3, rfl, rfl⟩ (key (h4.ctx x y) (by omega) (by omega)).symm
theorem TurnNew.simR (h : TurnNew S Q S' Q' kept l0 r0 ln rn) {n : Nat} {u v : Wd} (hr : Red S u v) (hu : wt u < n) : Conn (Uni S' Q') n u v := by
  induction hr with
  | refl => exact .refl _
  | step s _ ih =>
    have hd := h.dwn.stp s
    exact (h.simS _ _ _ (Nat.lt_succ_self _) s n hu).trans (ih (by omega))
theorem TurnNew.simA (h : TurnNew S Q S' Q' kept l0 r0 ln rn) {n : Nat} {u v : Wd} (hr : Red (AllR kept ln rn) u v) (hu : wt u < n) : Conn (Uni S' Q') n u v := by
  induction hr with
  | refl => exact .refl _
  | step s _ ih =>
    have hd := h.dall.stp s
    refine Conn.trans ?_ (ih (by omega))
    obtain ⟨x2, l2, r2, y2, h5, rfl, rfl⟩ := s
    rcases h5 with h5 | ⟨rfl, rfl⟩
    · exact h.simS _ _ _ (Nat.lt_succ_self _) ⟨x2, l2, r2, y2, h.sub _ _ h5, rfl, rfl⟩ n hu
    · exact .fwd hu (by omega) ⟨x2, _, _, y2, .inl h.new, rfl, rfl⟩ (.refl _)
theorem TurnNew.sim (h : TurnNew S Q S' Q' kept l0 r0 ln rn) {n : Nat} {u v : Wd} (s : Stp (Uni S Q) u v) (hu : wt u < n) (hv : wt v < n) : Conn (Uni S' Q') n u v := by
  obtain ⟨x, l, r, y, h1, rfl, rfl⟩ := s
  rcases h1 with h1 | h1
  · exact h.simS _ _ _ (Nat.lt_succ_self _) ⟨x, l, r, y, h1, rfl, rfl⟩ n hu
  · rcases h.pop _ _ h1 with ⟨rfl, rfl⟩ | h2
    · have e1 : Stp (Uni S' Q') (x ++ (ln ++ y)) (x ++ (rn ++ y)) := ⟨x, ln, rn, y, .inl h.new, rfl, rfl⟩
      rcases h.red with ⟨ha, hb⟩ | ⟨ha, hb⟩
      · have w1 := (ha.ctx x y).le h.dwn
        have w2 := (hb.ctx x y).le h.dwn
        exact (h.simR (ha.ctx x y) hu).trans (.fwd (by omega) (by omega) e1 (h.simR (hb.ctx x y) hv).symm)
      · have w1 := (ha.ctx x y).le h.dwn
        have w2 := (hb.ctx x y).le h.dwn
        exact (h.simR (ha.ctx x y) hu).trans (.bwd (by omega) (by omega) e1 (h.simR (hb.ctx x y) hv).symm)
    · exact .fwd hu hv ⟨x, l, r, y, .inr h2, rfl, rfl⟩ (.refl _)
theorem TurnNew.crit (h : TurnNew S Q S' Q' kept l0 r0 ln rn) (hc : Crit S (Uni S Q)) : Crit S' (Uni S' Q') := by
  have hd := h.dnew
  refine ⟨fun l1 r1 l2 r2 x y h1 h2 e => ?_, fun l1 r1 l2 r2 x t y h1 h2 e1 e2 e3 e4 e5 => ?_⟩
  · have d1 := hd _ _ h1
    have d2 : wt (x ++ (r2 ++ y)) < wt l1 := by rw [e]; exact wt_ctx x y (hd _ _ h2)
    rcases h.inv _ _ h1 with ⟨rfl, rfl⟩ | ⟨q1, k1, m1⟩
    · rcases h.inn1 _ _ _ _ h2 e with ⟨rfl, rfl, rfl⟩ | hq
      · simpa using Conn.refl _
      · exact .fwd d1 d2 (Stp.rule (.inr hq)) (.refl _)
    · rcases h.inv _ _ h2 with ⟨rfl, rfl⟩ | ⟨q2, k2, m2⟩
      · rcases h.inn2 _ _ _ _ h1 e with ⟨rfl, rfl, rfl⟩ | hq
        · simpa using Conn.refl _
        · exact .fwd d1 d2 (Stp.rule (.inr hq)) (.refl _)
      · have c := (hc.inn _ _ _ _ _ _ (h.sub _ _ k1) (h.sub _ _ k2) e).sim (fun _ _ s hu hv => h.sim s hu hv)
        have b1 := h.dwn _ _ (h.sub _ _ k1)
        have b2 : wt (x ++ (q2 ++ y)) < wt l1 := by rw [e]; exact wt_ctx x y (h.dwn _ _ (h.sub _ _ k2))
        exact (h.simA m1 b1).symm.trans (c.trans (h.simA (m2.ctx x y) b2))
  · have d1 : wt (r1 ++ y) < wt (x ++ (t ++ y)) := by
      have := wt_ctx [] y (hd _ _ h1)
      rw [e1] at this
      simpa [List.append_assoc] using this
    have d2 : wt (x ++ r2) < wt (x ++ (t ++ y)) := by
      have := wt_ctx x [] (hd _ _ h2)
      rw [e2] at this
      simpa [List.append_assoc] using this
    rcases h.inv _ _ h1 with ⟨rfl, rfl⟩ | ⟨q1, k1, m1⟩
    · exact .fwd d1 d2 (Stp.rule (.inr (h.acr1 _ _ _ _ _ h2 e1 e2 e3 e4 e5))) (.refl _)
    · rcases h.inv _ _ h2 with ⟨rfl, rfl⟩ | ⟨q2, k2, m2⟩
      · exact .fwd d1 d2 (Stp.rule (.inr (h.acr2 _ _ _ _ _ h1 e1 e2 e3 e4 e5))) (.refl _)
      · have c := (hc.acr _ _ _ _ _ _ _ (h.sub _ _ k1) (h.sub _ _ k2) e1 e2 e3 e4 e5).sim (fun _ _ s hu hv => h.sim s hu hv)
        have b1 : wt (q1 ++ y) < wt (x ++ (t ++ y)) := by
          have := wt_ctx [] y (h.dwn _ _ (h.sub _ _ k1))
          rw [e1] at this
          simpa [List.append_assoc] using this
        have b2 : wt (x ++ q2) < wt (x ++ (t ++ y)) := by
          have := wt_ctx x [] (h.dwn _ _ (h.sub _ _ k2))
          rw [e2] at this
          simpa [List.append_assoc] using this
        have m1' : Red (AllR kept ln rn) (q1 ++ y) (r1 ++ y) := by simpa using m1.ctx [] y
        have m2' : Red (AllR kept ln rn) (x ++ q2) (x ++ r2) := by simpa using m2.ctx x []
        exact (h.simA m1' b1).symm.trans (c.trans (h.simA m2' b2))
end
end Go.Proofs.YtgoeadgpbidgiaaGreat
