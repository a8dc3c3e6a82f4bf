/-
  The text of a system, of the program.
-/
import Derived.Test.YtoddpmdjjgnpgaaGreatDoorTxt16
import Derived.Test.YtoddpmdjjgnpgaaGreatDoorTxt05
import Derived.Test.YtoddpmdjjgnpgaaGreatDoorTxt01
import Derived.Test.YtoddpmdjjgnpgaaGreatDoorTxt04
namespace Go.Proofs.YtoddpmdjjgnpgaaGreatDoor
open Go.RowKit Go.Shelf
set_option linter.unusedVariables false
theorem strVals_app1 (l : List ByteArray) (s : ByteArray) : strVals (l ++ [s]) = strVals l ++ [.string s] := by simp [strVals]
/-- the boxes of the results and of the list, the list's row; B: the first of the boxes; D: the loop's first block -/
structure RU (B D : Nat) (w W : World) (v : Value) (pre : List ByteArray) : Prop where
  box : Boxed W (B + 1 + 1) 47 v
  row : W.ownsRow (D + 1 + 1) 9 1 v pre.length (strVals (pre.map undot))
  r0 : Boxed W B 47 (.slice none 0 0)
  r1 : Boxed W (B + 1) 4 (.bool false)
  bel : Below B w W
theorem RU.later {B D : Nat} {w W W' : World} {v : Value} {pre : List ByteArray} (h : RU B D w W v pre) (hb : Below W.heap.size W W') (hB : B ≤ W.heap.size) : RU B D w W' v pre :=
  ⟨boxed_later h.box hb, owns_later h.row hb, boxed_later h.r0 hb, boxed_later h.r1 hb, h.bel.trans (hb.mono hB)⟩
/-- a store into a block of the round's own -/
theorem RU.other {B D : Nat} {w W : World} {v : Value} {pre : List ByteArray} (h : RU B D w W v pre) {b : Nat} (o : Nat) (u : Value) (hb : B + 1 + 1 < b) (hrow : ∀ k, v.ownBlock = some k → k ≠ b) : RU B D w (W.setCell ⟨b, o, none⟩ u) v pre := by
  have hg := setGrownL W b o u
  refine ⟨h.box.kept hg (fun e => by have := Option.some.inj e; omega), h.row.kept hg ?_, h.r0.kept hg (fun e => by have := Option.some.inj e; omega), h.r1.kept hg (fun e => by have := Option.some.inj e; omega), h.bel.setCell (p := ⟨b, o, none⟩) (by show B ≤ b; omega) u⟩
  cases e : v.ownBlock with
  | none => exact .inl rfl
  | some k => exact .inr fun e2 => hrow k e (Option.some.inj e2)
/-- 'list = append(list, x)' -/
theorem RU.put {B D : Nat} {w W w1 : World} {v v' : Value} {pre : List ByteArray} {x : ByteArray} {o : Obj} (h : RU B D w W v pre) (hB : B ≤ W.heap.size) (hBD : B + 1 + 1 < D) (hr : w1.ownsRow (D + 1 + 1) 9 1 v' (pre.length + 1) (strVals (pre.map undot) ++ [.string (undot x)])) (hg : (W.alloc o).grownBy w1 v.ownBlock) :
    RU B D w (w1.setCell ⟨B + 1 + 1, 0, none⟩ v') v' (pre ++ [x]) := by
  have hv : ∀ k, v.ownBlock = some k → D + 1 + 1 ≤ k := fun k hk => (h.row.lt k hk).1
  have hv' : ∀ k, v'.ownBlock = some k → D + 1 + 1 ≤ k := fun k hk => (hr.lt k hk).1
  have hk : ∀ {b T u}, Boxed W b T u → b < D → Boxed w1 b T u := fun {b T u} hb hlt => (hb.alloc o).kept hg (fun e => by have := hv _ e.symm; omega)
  have hg2 := grownBy_setCell' w1 (B + 1 + 1) v'
  refine ⟨(hk h.box hBD).set v', ?_, (hk h.r0 (by omega)).other (by omega) _, (hk h.r1 (by omega)).other (by omega) _, ?_⟩
  · rw [List.map_append, List.map_cons, List.map_nil, strVals_app1, List.length_append]
    refine hr.kept hg2 ?_
    cases e : v'.ownBlock with
    | none => exact .inl rfl
    | some k => exact .inr fun e2 => by have := hv' k e; have := Option.some.inj e2; omega
  · exact ((h.bel.alloc hB o).grown hg (by simp; omega) (fun k hk => by have := hv k hk; omega)).setCell (p := ⟨B + 1 + 1, 0, none⟩) (by show B ≤ B + 1 + 1; omega) v'
/-- the results are stored -/
theorem RU.fin {B D : Nat} {w W : World} {v x y : Value} {pre : List ByteArray} (h : RU B D w W v pre) (hBD : B + 1 + 1 < D) :
    Boxed ((W.setCell ⟨B, 0, none⟩ x).setCell ⟨B + 1, 0, none⟩ y) B 47 x ∧ Boxed ((W.setCell ⟨B, 0, none⟩ x).setCell ⟨B + 1, 0, none⟩ y) (B + 1) 4 y ∧ ((W.setCell ⟨B, 0, none⟩ x).setCell ⟨B + 1, 0, none⟩ y).ownsRow (D + 1 + 1) 9 1 v pre.length (strVals (pre.map undot)) ∧ Below B w ((W.setCell ⟨B, 0, none⟩ x).setCell ⟨B + 1, 0, none⟩ y) ∧ ((W.setCell ⟨B, 0, none⟩ x).setCell ⟨B + 1, 0, none⟩ y).heap[D]? = W.heap[D]? := by
  have hv : ∀ k, v.ownBlock = some k → D + 1 + 1 ≤ k := fun k hk => (h.row.lt k hk).1
  have hne : ∀ b, b < D → v.ownBlock = none ∨ v.ownBlock ≠ some b := fun b hb => by
    cases e : v.ownBlock with
    | none => exact .inl rfl
    | some k => exact .inr fun e2 => by have := hv k e; have := Option.some.inj e2; omega
  refine ⟨(Boxed.set x h.r0).other (by omega) _, (h.r1.other (by omega) _).set _, (h.row.kept (grownBy_setCell' W B x) (hne B (by omega))).kept (grownBy_setCell' _ (B + 1) y) (hne (B + 1) (by omega)), (h.bel.setCell (p := ⟨B, 0, none⟩) (Nat.le_refl _) _).setCell (p := ⟨B + 1, 0, none⟩) (by show B ≤ B + 1; omega) _, ?_⟩
  exact (Below.heap_setCell _ _ _ _ (by show D ≠ B + 1; omega)).trans (Below.heap_setCell _ _ _ _ (by show D ≠ B; omega))
/-- between two rounds -/
def IU (B D : Nat) (w : World) (pre : List ByteArray) (W : World) : Prop := ∃ v, RU B D w W v pre
theorem IU.own {B D : Nat} {w : World} (hB : B ≤ w.heap.size) (hBD : B ≤ D) : OwnFrom D (IU B D w) := fun pre W W' row ⟨v, h⟩ hg hr =>
  ⟨v, boxed_turn h.box hg (fun r e => (hr r e).2), row_turn h.row hg (fun r e => (hr r e).2), boxed_turn h.r0 hg (fun r e => (hr r e).2), boxed_turn h.r1 hg (fun r e => (hr r e).2), h.bel.grown hg (Nat.le_trans hB h.bel.size) (fun k e => Nat.le_trans hBD (hr k e).1)⟩
theorem IU.set {B D : Nat} {w : World} (hBD : B + 1 + 1 + 1 < D) (pre : List ByteArray) (W : World) (u : Value) (h : IU B D w pre W) : IU B D w pre (W.setCell ⟨B + 1 + 1 + 1, 0, none⟩ u) := by
  obtain ⟨v, h⟩ := h
  exact ⟨v, h.other 0 u (by omega) (fun k hk => by have := (h.row.lt k hk).1; omega)⟩
theorem sub_split {l : List ByteArray} (h : subB l = true) : splitB (subT l) 44 = dotTo l l.length := by
  unfold subT
  rw [if_pos h]
  have hs := subB_part h
  refine split_join (by rw [dotTo_len (Nat.le_refl _)]; omega) fun s hm => ?_
  unfold dotTo at hm
  obtain ⟨x, hx, rfl⟩ := List.mem_map.1 hm
  rw [List.take_length] at hx
  exact dotB_free (hs.2 x hx).2 (.inl (by simp))
theorem dotTo_undot {l : List ByteArray} (h : subB l = true) : (dotTo l l.length).map undot = l := by
  unfold dotTo
  rw [List.take_length, List.map_map]
  have hs := subB_part h
  exact (List.map_congr_left fun s hm => undot_dot (hs.2 s hm).2).trans (List.map_id _)
theorem subT_size {l : List ByteArray} (h : subB l = true) : (subT l).size ≤ 200 := by
  obtain ⟨hl, hp⟩ := subB_part h
  unfold subT
  rw [if_pos h]
  have h1 := joinF_size (dotTo l l.length) ⟨#[44]⟩
  rw [dotTo_len (Nat.le_refl _)] at h1
  have h2 : strSum (dotTo l l.length) ≤ 21 * (dotTo l l.length).length := strSum_few (fun p hp' => by
    unfold dotTo at hp'
    obtain ⟨x, hx, rfl⟩ := List.mem_map.1 hp'
    rw [List.take_length] at hx
    have h3 := (hp x hx).1
    have h4 := dotB_size x
    omega)
  rw [dotTo_len (Nat.le_refl _)] at h2
  have h5 : (⟨#[44]⟩ : ByteArray).size = 1 := rfl
  rw [h5] at h1
  omega
theorem wpIn_append_step {F : Fence} {n : Nat} {P : Program} {o : Oper} {a : Act} {w w' : World} {K : Act → World → Prop} {Q : Exit → Act → World → Prop} {s x : Operand} {t : TypeId} {v u r : Value}
    (hop : o.op = Op.call { callee := Callee.builtin Builtin.append, args := #[s, x], argTypes := #[t, t] }) (hs : a.eval s = v) (hx : a.eval x = u)
    (hrun : (Builtin.append_ #[t, t] o.type #[v, u]).run P w = .ok r w') (hK : K (a.put o.dst r) w') : Oper.wpIn F n P o a w K Q := by
  unfold Oper.wpIn
  refine ⟨?_, ?_⟩
  · simp [Oper.about, hop, resolve, Target.leads, Sem.run_pure]
  · rw [Oper.semAt_plain F _ _ (by rw [hop]; intro c hc'; cases hc')]
    simp [execOp, hop, resolve, invoke, builtin, hs, hx, hrun, Result.andThen]
    exact hK
/-- what ParseSubstitution hands back -/
def RetSb (l : List ByteArray) (w : World) (e : Ending) (w' : World) : Prop := ∃ a c, e = .returned (.tuple #[.slice a l.length c, .bool true]) ∧ StrsIn w' a l ∧ Below w.heap.size w w'
attribute [local go_sem] Oper.semAt_some
set_option maxRecDepth 100000 in
set_option maxHeartbeats 4000000 in
theorem implParseSub_x (l : List ByteArray) (w : World) (hb : subB l = true) :
    Calls Tryz.prog 27 #[.string (subT l)] w (RetSb l w) := by
  refine (callsIn_wide (n := 3)).1 ?_
  refine callsIn_of_wp_marks Tryz.func27 rfl trivial ?_ rfl
  simp only [Tryz.ntmps27, List.size_toArray, List.length_cons, List.length_nil, Nat.reduceAdd, Nat.reduceSub, Array.replicate_succ, Array.replicate_zero, List.push_toArray, List.append_toArray, List.nil_append, List.cons_append]
  have HSPL := Lib.hid (sub_split hb)
  have HDU := Lib.hid (dotTo_undot hb)
  have HSB := Lib.hid (subB_part hb)
  have HTS := Lib.hid (subT_size hb)
  have HHB := Lib.hid hb
  obtain ⟨t, ht⟩ : ∃ t, subT l = t := ⟨_, rfl⟩
  rw [ht] at HSPL HTS ⊢
  have HTT := Lib.hid ht
  clear ht hb
  gi_wp2
  refine ⟨trivial, (callsIn_wide.2 (splitSeq_any t 44 _)).mono ?_⟩
  rintro e w2 ⟨rfl, hw2⟩
  obtain ⟨B, hBe⟩ : ∃ B, w.heap.size = B := ⟨_, rfl⟩
  have HFAC : Hid (w2.heap.size = B + 1 + 1 + 1 + 1 + 1 + 1 ∧ RU B (B + 1 + 1 + 1 + 1 + 1 + 1) w w2 (.slice none 0 0) [] ∧ SeqBox w2 (B + 1 + 1 + 1 + 1) (B + 1 + 1 + 1) (B + 1 + 1 + 1 + 1 + 1) 44 t) := Lib.hid (by
    subst hw2
    subst hBe
    have e1 := Boxed.new w 47 (.slice none 0 0)
    have e2 := Boxed.new (w.alloc (.cells #[.slice none 0 0] 47)) 4 (.bool false)
    have e3 := Boxed.new ((w.alloc (.cells #[.slice none 0 0] 47)).alloc (.cells #[.bool false] 4)) 47 (.slice none 0 0)
    have e4 := Boxed.new (((w.alloc (.cells #[.slice none 0 0] 47)).alloc (.cells #[.bool false] 4)).alloc (.cells #[.slice none 0 0] 47)) 9 (.string t)
    have e5 := Boxed.new ((((w.alloc (.cells #[.slice none 0 0] 47)).alloc (.cells #[.bool false] 4)).alloc (.cells #[.slice none 0 0] 47)).alloc (.cells #[.string t] 9)) 9 (.string ⟨#[44]⟩)
    have e6 := Boxed.new (((((w.alloc (.cells #[.slice none 0 0] 47)).alloc (.cells #[.bool false] 4)).alloc (.cells #[.slice none 0 0] 47)).alloc (.cells #[.string t] 9)).alloc (.cells #[.string ⟨#[44]⟩] 9)) 3 (.int .i64 0)
    simp only [World.size_alloc] at e2 e3 e4 e5 e6
    refine ⟨by simp only [World.size_alloc], ⟨((e3.alloc _).alloc _).alloc _, World.ownsRow_nil _ _ _ _, ((((e1.alloc _).alloc _).alloc _).alloc _).alloc _, (((e2.alloc _).alloc _).alloc _).alloc _, ?_⟩, ⟨e5.alloc _, (e4.alloc _).alloc _, e6⟩⟩
    exact ((((((Below.refl _ w).alloc (Nat.le_refl _) _).alloc (by simp only [World.size_alloc]; omega) _).alloc (by simp only [World.size_alloc]; omega) _).alloc (by simp only [World.size_alloc]; omega) _).alloc (by simp only [World.size_alloc]; omega) _).alloc (by simp only [World.size_alloc]; omega) _)
  clear hw2
  obtain ⟨hsz, hRS, hSB⟩ := HFAC.out
  have HRS := Lib.hid hRS
  have HSQ := Lib.hid hSB
  have HSZ := Lib.hid hsz
  have HBE := Lib.hid hBe
  clear hRS hSB HFAC hsz
  rw [hBe]
  obtain ⟨D, hD⟩ : ∃ D, w2.heap.size = D := ⟨_, rfl⟩
  have HD := Lib.hid hD
  have hDB : D = B + 1 + 1 + 1 + 1 + 1 + 1 := by rw [← hD]; exact HSZ.out
  have HDB := Lib.hid hDB
  have HT2 : Hid (t.size ≤ 2 ^ 40) := Lib.hid (by have := HTS.out; omega)
  rw [← hDB] at HRS
  clear hD hDB
  gi_wp2
  clear hBe
  refine wpIn_rangeSeq (Bp := B + 1 + 1 + 1 + 1) (Bs := B + 1 + 1 + 1) (Bv := B + 1 + 1 + 1 + 1 + 1) (c := 44) (s0 := t) rfl rfl HT2.out HSQ.out (by omega) (by omega) (IU B D w) (fun _ _ => False)
    (by rw [HD.out]; exact IU.own (by have := HBE.out; omega) (by have := HDB.out; omega)) (fun _ _ _ _ h => h.elim) (IU.set (by have := HDB.out; omega)) ⟨_, HRS.out⟩
    (fun x => { tmps := #[.string t, undef, .pointer (some ⟨B, 0, none⟩), .pointer (some ⟨B + 1, 0, none⟩), .pointer (some ⟨B + 1 + 1, 0, none⟩), .string x, .string t, .func (.func 165) #[] #[.pointer (some ⟨B + 1 + 1 + 1 + 1, 0, none⟩), .pointer (some ⟨B + 1 + 1 + 1, 0, none⟩), .pointer (some ⟨B + 1 + 1 + 1 + 1 + 1, 0, none⟩)], .string x, undef, undef, undef, undef, undef, undef, undef, undef, undef, undef, undef, undef, undef, undef, undef, undef, undef], defers := [] }) ?assign ?body ?done ?stop
  case assign =>
    intro l x W K hK
    gi_wp2
    exact hK
  case body =>
    rintro lp pre x W ⟨v, hR⟩ hlt hx40 hpost
    rw [HD.out] at hlt ⊢
    have HRW := Lib.hid hR
    have HLT := Lib.hid hlt
    have HDB2 : Hid (B + 1 + 1 + 1 + 1 + 1 < D) := Lib.hid (by have := HDB.out; omega)
    have HPN : Hid (pre.length < 4) := Lib.hid (by
      obtain ⟨post, he⟩ := hpost
      have h1 := congrArg List.length (HSPL.out.symm.trans he)
      rw [dotTo_len (Nat.le_refl _), List.length_append, List.length_cons] at h1
      have := HSB.out.1; omega)
    obtain ⟨a3, c3, rfl⟩ := owns_form hR.row
    have l0 := Boxed.cell (t := 47) hR.box
    have l1 : (W.alloc (.cells #[.string (undot x)] 9)).cell? ⟨B + 1 + 1, 0, none⟩ = some (.slice a3 pre.length c3) := Boxed.cell (t := 47) (hR.box.alloc _)
    have hn4 : ((pre.length : Int) == 4) = false := by rw [beq_eq_false_iff_ne]; have := HPN.out; omega
    clear hR hlt hpost
    have hmx : Tryz.prog.follows .mixedOrders = true := by kernel_rfl
    have HUN := Lib.hid (fun W => undotted_any x W)
    obtain ⟨y, hy⟩ : ∃ y, undot x = y := ⟨_, rfl⟩
    rw [hy] at HUN l1
    have HY := Lib.hid hy
    clear hy
    have hrowA : ((W.alloc (.cells #[.string y] 9)).drew).ownsRow (D + 1 + 1) 9 1 (.slice a3 pre.length c3) pre.length (strVals (pre.map undot)) := owns_later (HRW.out.row.alloc _) (Below.drew (Below.refl _ _))
    obtain ⟨i0, hi, hz0, hz1, hz2⟩ := info_parts Tryz.infoStr
    obtain ⟨v', w8, hrun, hown', hgrow, _⟩ := run_append_own (P := Tryz.prog) ((W.alloc (.cells #[.string y] 9)).drew) (D + 1 + 1) 47 47 9 i0 _ 1 16 Tryz.underlying47 hi hz0 hz1 hz2 rfl (by decide) (.slice a3 pre.length c3) pre.length _ hrowA ⟨W.heap.size, 0, none⟩ 1 1 [.string y] rfl (fun j u hu => by
      have hadd : (⟨W.heap.size, 0, none⟩ : Addr).add j = ⟨W.heap.size, j, none⟩ := by unfold Addr.add; split <;> simp_all
      rw [hadd, show ((W.alloc (.cells #[.string y] 9)).drew).cell? ⟨W.heap.size, j, none⟩ = (W.alloc (.cells #[.string y] 9)).cell? ⟨W.heap.size, j, none⟩ from rfl, World.cell?_alloc_new]
      simpa using hu) (by simp [Value.oneCell']) (by have := HPN.out; unfold maxLen; omega) (by have := HPN.out; omega) (by have := HLT.out; simp [World.drew]; omega)
    have HB8 : Hid (Boxed w8 (B + 1 + 1) 47 (.slice a3 pre.length c3)) := Lib.hid (by
      have h1 : Boxed ((W.alloc (.cells #[.string y] 9)).drew) (B + 1 + 1) 47 (.slice a3 pre.length c3) := HRW.out.box.alloc _
      exact h1.kept hgrow (fun e => by have := (HRW.out.row.lt _ e.symm).1; have := HDB2.out; omega))
    have m0 := Boxed.cell (t := 47) HB8.out
    have m0f := Boxed.frozen (t := 47) HB8.out
    obtain ⟨g8, c8, rfl⟩ := ownsRow_succ hown'
    have hgr : (W.alloc (.cells #[.string y] 9)).grownBy w8 (Value.slice a3 pre.length c3).ownBlock := ⟨hgrow.os, hgrow.tape, hgrow.output, hgrow.size, hgrow.block⟩
    have HR8 : Hid (RU B D w (w8.setCell ⟨B + 1 + 1, 0, none⟩ (.slice (some ⟨g8, 0, none⟩) (pre.length + 1) c8)) (.slice (some ⟨g8, 0, none⟩) (pre.length + 1) c8) (pre ++ [x])) := Lib.hid (HRW.out.put (by have := HLT.out; have := HDB2.out; omega) (by have := HDB2.out; omega) (by rw [HY.out]; exact hown') hgr)
    have HK8 : Hid (Kp5 (B + 1 + 1 + 1 + 1) (B + 1 + 1 + 1) (B + 1 + 1 + 1 + 1 + 1) D W (w8.setCell ⟨B + 1 + 1, 0, none⟩ (.slice (some ⟨g8, 0, none⟩) (pre.length + 1) c8))) := Lib.hid (by
      have hd := HDB2.out
      have hl7 := HLT.out
      exact (Kp5.below (alloc_belowS W (.cells #[.string y] 9)) (by omega) (by omega) (by omega) (by omega)).trans ((Kp5.grown hgr (by simp; omega) (by simp; omega) (by simp; omega) (by simp; omega) (fun k hk => by have := (HRW.out.row.lt _ hk).1; omega)).trans (kp_set 0 _ (by omega) (by omega) (by omega) (by omega) (by omega))))
    clear hown' hgrow hrowA hi hz0 hz1 hz2
    gi_wp2
    refine wpIn_region_any hmx ?_
    change wpAnyIn _ _ _ _ _ _ _ _ _ (World.drew _)
    refine wpAnyIn_ready (rs := [0, 1]) (by kernel_rfl) (by simp) ?_
    refine AllReadyIn.cons rfl (fun K hK => ?_) (AllReadyIn.cons rfl (fun K hK => ?_) (AllReadyIn.nil))
    · go_simp
      refine hK _ _ ?_
      clear hK K
      refine wpAnyIn_ready (rs := [1]) (by kernel_rfl) (by simp) ?_
      refine AllReadyIn.cons rfl (fun K hK => ?_) (AllReadyIn.nil)
      · go_simp
        refine hK _ _ ?_
        clear hK K
        refine wpAnyIn_ready (rs := [2]) (by kernel_rfl) (by simp) ?_
        refine AllReadyIn.cons rfl (fun K hK => ?_) (AllReadyIn.nil)
        · go_simp
          gi_wp2_with (refine ⟨trivial, (CallsIn.inRound lp (callsIn_wide.2 (HUN.out _))).mono ?_⟩; rintro e w3 ⟨rfl, rfl⟩)
          refine wpAnyIn_ready (rs := [3]) (by kernel_rfl) (by simp) ?_
          refine AllReadyIn.cons rfl (fun K hK => ?_) (AllReadyIn.nil)
          · go_simp
            refine hK _ _ ?_
            clear hK K
            refine wpAnyIn_ready (rs := [4]) (by kernel_rfl) (by simp) ?_
            refine AllReadyIn.cons rfl (fun K hK => ?_) AllReadyIn.nil
            refine wpIn_append_step rfl rfl rfl hrun ?_
            refine hK _ _ ?_
            clear hK K
            refine wpAnyIn_ready (rs := [5]) (by kernel_rfl) (by simp) ?_
            refine AllReadyIn.cons rfl (fun K hK => ?_) AllReadyIn.nil
            go_simp
            refine hK _ _ ?_
            clear hK K
            refine wpAnyIn_done (by kernel_rfl) ?_ _
            gi_wp2
            exact ⟨HK8.out, ⟨_, HR8.out⟩⟩
    · go_simp
      refine hK _ _ ?_
      clear hK K
      refine wpAnyIn_ready (rs := [0, 2]) (by kernel_rfl) (by simp) ?_
      refine AllReadyIn.cons rfl (fun K hK => ?_) (AllReadyIn.cons rfl (fun K hK => ?_) (AllReadyIn.nil))
      · go_simp
        refine hK _ _ ?_
        clear hK K
        refine wpAnyIn_ready (rs := [2]) (by kernel_rfl) (by simp) ?_
        refine AllReadyIn.cons rfl (fun K hK => ?_) (AllReadyIn.nil)
        · go_simp
          gi_wp2_with (refine ⟨trivial, (CallsIn.inRound lp (callsIn_wide.2 (HUN.out _))).mono ?_⟩; rintro e w3 ⟨rfl, rfl⟩)
          refine wpAnyIn_ready (rs := [3]) (by kernel_rfl) (by simp) ?_
          refine AllReadyIn.cons rfl (fun K hK => ?_) (AllReadyIn.nil)
          · go_simp
            refine hK _ _ ?_
            clear hK K
            refine wpAnyIn_ready (rs := [4]) (by kernel_rfl) (by simp) ?_
            refine AllReadyIn.cons rfl (fun K hK => ?_) AllReadyIn.nil
            refine wpIn_append_step rfl rfl rfl hrun ?_
            refine hK _ _ ?_
            clear hK K
            refine wpAnyIn_ready (rs := [5]) (by kernel_rfl) (by simp) ?_
            refine AllReadyIn.cons rfl (fun K hK => ?_) AllReadyIn.nil
            go_simp
            refine hK _ _ ?_
            clear hK K
            refine wpAnyIn_done (by kernel_rfl) ?_ _
            gi_wp2
            exact ⟨HK8.out, ⟨_, HR8.out⟩⟩
      · go_simp
        gi_wp2_with (refine ⟨trivial, (CallsIn.inRound lp (callsIn_wide.2 (HUN.out _))).mono ?_⟩; rintro e w3 ⟨rfl, rfl⟩)
        refine wpAnyIn_ready (rs := [0, 3]) (by kernel_rfl) (by simp) ?_
        refine AllReadyIn.cons rfl (fun K hK => ?_) (AllReadyIn.cons rfl (fun K hK => ?_) (AllReadyIn.nil))
        · go_simp
          refine hK _ _ ?_
          clear hK K
          refine wpAnyIn_ready (rs := [3]) (by kernel_rfl) (by simp) ?_
          refine AllReadyIn.cons rfl (fun K hK => ?_) (AllReadyIn.nil)
          · go_simp
            refine hK _ _ ?_
            clear hK K
            refine wpAnyIn_ready (rs := [4]) (by kernel_rfl) (by simp) ?_
            refine AllReadyIn.cons rfl (fun K hK => ?_) AllReadyIn.nil
            refine wpIn_append_step rfl rfl rfl hrun ?_
            refine hK _ _ ?_
            clear hK K
            refine wpAnyIn_ready (rs := [5]) (by kernel_rfl) (by simp) ?_
            refine AllReadyIn.cons rfl (fun K hK => ?_) AllReadyIn.nil
            go_simp
            refine hK _ _ ?_
            clear hK K
            refine wpAnyIn_done (by kernel_rfl) ?_ _
            gi_wp2
            exact ⟨HK8.out, ⟨_, HR8.out⟩⟩
        · go_simp
          refine hK _ _ ?_
          clear hK K
          refine wpAnyIn_ready (rs := [0]) (by kernel_rfl) (by simp) ?_
          refine AllReadyIn.cons rfl (fun K hK => ?_) (AllReadyIn.nil)
          · go_simp
            refine hK _ _ ?_
            clear hK K
            refine wpAnyIn_ready (rs := [4]) (by kernel_rfl) (by simp) ?_
            refine AllReadyIn.cons rfl (fun K hK => ?_) AllReadyIn.nil
            refine wpIn_append_step rfl rfl rfl hrun ?_
            refine hK _ _ ?_
            clear hK K
            refine wpAnyIn_ready (rs := [5]) (by kernel_rfl) (by simp) ?_
            refine AllReadyIn.cons rfl (fun K hK => ?_) AllReadyIn.nil
            go_simp
            refine hK _ _ ?_
            clear hK K
            refine wpAnyIn_done (by kernel_rfl) ?_ _
            gi_wp2
            exact ⟨HK8.out, ⟨_, HR8.out⟩⟩

  case done =>
    rintro W ⟨v, hR⟩ hK
    rw [HD.out] at hK ⊢
    rw [HSPL.out] at hR
    have HKD := Lib.hid hK
    have hlen : (dotTo l l.length).length = l.length := dotTo_len (Nat.le_refl _)
    obtain ⟨aQ, cQ, hvf⟩ := owns_form hR.row
    subst hvf
    rw [hlen] at hR
    have HRW := Lib.hid hR
    have hrow := hR.row
    rw [hlen, HDU.out] at hrow
    have HRO := Lib.hid hrow
    have HDB2 : Hid (B + 1 + 1 + 1 + 1 + 1 < D) := Lib.hid (by have := HDB.out; omega)
    have HST : Hid (StrsIn W aQ l) := Lib.hid (owns_cells hrow)
    have HFM := Lib.hid (implFormatSub_any l aQ cQ W HST.out (by have := HSB.out.1; omega) (fun j hj => by rw [nthS_lt hj]; have := (HSB.out.2 _ (List.getElem_mem hj)).1; unfold maxLen; omega) (by
      have h2 : strSum l ≤ 8 * l.length := strSum_few (fun p hp => (HSB.out.2 p hp).1)
      have := HSB.out.1; omega))
    rw [HTT.out] at HFM
    have l0 : W.cell? ⟨B + 1 + 1, 0, none⟩ = some (.slice aQ l.length cQ) := Boxed.cell (t := 47) HRW.out.box
    have hte : (t.toList == []) = false := by
      rw [beq_eq_false_iff_ne]
      intro e0
      have ht0 : t = ⟨#[]⟩ := by
        rw [Lib.toList_data] at e0
        apply Go.WideShapes.bytes_inj
        simpa using e0
      have h1 := HSPL.out
      rw [ht0] at h1
      have h2 : splitB (⟨#[]⟩ : ByteArray) 44 = [⟨#[]⟩] := by decide
      rw [h2] at h1
      have h3 : (⟨#[]⟩ : ByteArray) ∈ dotTo l l.length := by rw [← h1]; simp
      unfold dotTo at h3
      obtain ⟨x, _, hx⟩ := List.mem_map.1 h3
      unfold dotB at hx
      split at hx
      · exact absurd (congrArg ByteArray.size hx) (by decide)
      · next h => rw [hx] at h; exact h (by rw [Lib.toList_data]; rfl)
    have HNE2 : Hid (B ≠ D) := Lib.hid (by have := HDB2.out; omega)
    have HNE3 : Hid (B + 1 ≠ D) := Lib.hid (by have := HDB2.out; omega)
    clear hR hrow hlen hK
    gi_wp2
    refine ⟨trivial, (callsIn_wide.2 HFM.out).mono ?_⟩
    rintro e w3 ⟨rfl, hb3⟩
    have HLW : Hid (D < W.heap.size) := Lib.hid (Array.getElem?_eq_some_iff.1 HKD.out).1
    have HR3 := Lib.hid (HRW.out.later hb3 (by have := HLW.out; have := HDB2.out; omega))
    have HO3 := Lib.hid (owns_later HRO.out hb3)
    have HK3 : Hid (w3.heap[D]? = some (.deferred (some []))) := Lib.hid ((hb3.block D HLW.out).trans HKD.out)
    clear hb3 l0
    have p0 := Boxed.cell (t := 47) HR3.out.r0
    have p0f := Boxed.frozen (t := 47) HR3.out.r0
    have p1 := Boxed.cell (t := 4) HR3.out.r1
    have p1f := Boxed.frozen (t := 4) HR3.out.r1
    have l0 := Boxed.cell (t := 47) HR3.out.box
    have HBD : Hid (B + 1 + 1 < D) := Lib.hid (by have := HDB2.out; omega)
    have HFN := Lib.hid (HR3.out.fin (x := .slice aQ l.length cQ) (y := .bool true) HBD.out)
    gi_wp2
    refine ⟨by simp, .inl ⟨_, _, rfl, run_takeDeferred (HFN.out.2.2.2.2.trans HK3.out), ?_⟩⟩
    have q0 := boxed_put HFN.out.1 HNE2.out (.deferred none)
    have q1 := boxed_put HFN.out.2.1 HNE3.out (.deferred none)
    refine ⟨.tuple #[.slice aQ l.length cQ, .bool true], ?_, ?_⟩
    · simp [results, Tryz.results27, go_sem, q0, q1]
    · have hr := HFN.out.2.2.1
      rw [dotTo_len (Nat.le_refl _), HDU.out] at hr
      have hKF := HFN.out.2.2.2.2.trans HK3.out
      exact ⟨aQ, cQ, rfl, owns_cells (row_turn hr (grownBy_putObj' _ D _) (fun r e => by cases e; exact ⟨_, hKF, rfl⟩)), by
        rw [HBE.out]
        exact HFN.out.2.2.2.1.grown (grownBy_putObj' _ D _) (by have := HFN.out.2.2.2.1.size; have := HBE.out; omega) (fun k e => by cases e; have := HBD.out; omega)⟩
  case stop =>
    intro pre W _ h _
    exact h.elim
end Go.Proofs.YtoddpmdjjgnpgaaGreatDoor
namespace Go.Proofs.YtoddpmdjjgnpgaaGreatDoor
open Go.RowKit
set_option linter.unusedVariables false
set_option maxRecDepth 20000 in
set_option maxHeartbeats 1000000 in
theorem implFormatRule_any (x y : ByteArray) (w : World) (hx : x.size + y.size + 3 ≤ maxLen) :
    Calls Tryz.prog 73 #[.agg #[.string x, .string y]] w fun e w' => e = .returned (.string (ruleT (x, y))) ∧ Below w.heap.size w w' := by
  have h1 := dotB_size x
  have h2 := dotB_size y
  unfold maxLen at hx
  have P1 := Lib.hid (fun W => dotted_any x W)
  have P2 := Lib.hid (fun W => dotted_any y W)
  have HR : Hid (ruleT (x, y) = dotB x ++ ⟨#[62]⟩ ++ dotB y) := Lib.hid rfl
  generalize ruleT (x, y) = rt at *
  generalize dotB x = a at *
  generalize dotB y = b at *
  have c1 : ¬ 9223372036854775807 < a.size + 1 := by omega
  have c3 : ¬ 9223372036854775807 < a.size + 1 + b.size := by omega
  go_enter Tryz.func73, Tryz.ntmps73
  go_wp2_with fail
  obtain ⟨w0, hw0⟩ : ∃ w0, w0 = (w.alloc (.cells #[.string x, .string y] 120)) := ⟨_, rfl⟩
  have HX : Hid (Below w.heap.size w w0) := Lib.hid (by rw [hw0]; exact (Below.refl _ _).alloc (Nat.le_refl _) _)
  have hx0 : ∀ W, Below w0.heap.size w0 W → W.cell? ⟨w.heap.size, 0, none⟩ = some (.string x) := fun W hW => by rw [hW.cell (by rw [hw0]; simp), hw0]; simp
  have hx1 : ∀ W, Below w0.heap.size w0 W → W.cell? ⟨w.heap.size, 1, none⟩ = some (.string y) := fun W hW => by rw [hW.cell (by rw [hw0]; simp), hw0]; simp
  rw [← hw0]
  clear hw0
  have q0 : ∀ x, (wide w0 x).cell? ⟨w.heap.size, 0, none⟩ = some _ := wide_cell (hx0 _ (Below.refl _ _))
  have q1 : ∀ x, (wide w0 x).cell? ⟨w.heap.size, 1, none⟩ = some _ := wide_cell (hx1 _ (Below.refl _ _))
  clear hx0 hx1
  refine region_wide (by kernel_rfl) (by kernel_rfl) ?_
  repeat (quiet_step (first
    | (go_at_call 77; refine (P1.out _).mono ?_; rintro e w2 ⟨rfl, rfl⟩; exact ⟨rfl, _, rfl⟩)
    | (go_at_call 77; refine (P2.out _).mono ?_; rintro e w2 ⟨rfl, rfl⟩; exact ⟨rfl, _, rfl⟩)))
  refine wpQuiet_nil ?_
  rintro w4 ⟨x4, rfl⟩
  have hend := Below.now HX.out (below_wide w0 x4)
  clear q0 q1
  go_wp2_with fail
  go_ret
  exact ⟨ret_str HR.out.symm, hend⟩
end Go.Proofs.YtoddpmdjjgnpgaaGreatDoor
namespace Go.Proofs.YtoddpmdjjgnpgaaGreatDoor
open Go.RowKit Go.Shelf
set_option linter.unusedVariables false
theorem index_at (a b : List UInt8) (c : UInt8) (h : c ∉ a) : Lib.indexByte (a ++ c :: b) c = (a.length : Int) := by
  induction a with
  | nil =>
    rw [List.nil_append, show Lib.indexByte (c :: b) c = if c == c then 0 else if Lib.indexByte b c == -1 then -1 else Lib.indexByte b c + 1 from rfl]
    simp
  | cons d a ih =>
    have h1 : c ≠ d := fun e => h (by simp [e])
    have h2 : c ∉ a := fun e => h (by simp [e])
    rw [List.cons_append, show Lib.indexByte (d :: (a ++ c :: b)) c = if d == c then 0 else if Lib.indexByte (a ++ c :: b) c == -1 then -1 else Lib.indexByte (a ++ c :: b) c + 1 from rfl, if_neg (by simpa using fun e => h1 e.symm), ih h2, if_neg (by simp)]
    rfl
theorem cut_rule {x y : ByteArray} (hx : wordOkB 4 x = true) : cutB (ruleT (x, y)) 62 = (dotB x, dotB y, true) := by
  have hf := dotB_free (c := 62) hx (.inr ⟨by decide, by decide⟩)
  have hd : (ruleT (x, y)).data.toList = (dotB x).data.toList ++ 62 :: (dotB y).data.toList := by
    unfold ruleT
    simp [ByteArray.data_append]
  have hz : (dotB x).data.toList.length = (dotB x).size := Array.length_toList
  have hi : Lib.indexByte (ruleT (x, y)).data.toList 62 = ((dotB x).size : Int) := by
    rw [hd, index_at _ _ _ hf, hz]
  rw [cutB_yes hi]
  have hs : (ruleT (x, y)).size = (dotB x).size + 1 + (dotB y).size := by
    unfold ruleT
    rw [ByteArray.size_append, ByteArray.size_append]
    rfl
  have h1 : (ruleT (x, y)).extract 0 (dotB x).size = dotB x := by
    apply Go.WideShapes.bytes_inj
    rw [ByteArray.data_extract, Array.toList_extract, hd]
    rw [List.extract_eq_take_drop, Nat.sub_zero, List.drop_zero, ← hz, List.take_left]
  have h2 : (ruleT (x, y)).extract ((dotB x).size + 1) (ruleT (x, y)).size = dotB y := by
    apply Go.WideShapes.bytes_inj
    rw [ByteArray.data_extract, Array.toList_extract, hd, hs]
    have hz2 : (dotB y).data.toList.length = (dotB y).size := Array.length_toList
    rw [List.extract_eq_take_drop, show (dotB x).size + 1 + (dotB y).size - ((dotB x).size + 1) = (dotB y).size by omega, ← hz, ← List.drop_drop, List.drop_left]
    rw [List.drop_one, List.tail_cons, ← hz2, List.take_length]
  rw [h1, h2]
set_option maxRecDepth 100000 in
set_option maxHeartbeats 400000 in
theorem implParseRule_x (x y : ByteArray) (w : World) (hx : wordOkB 4 x = true) (hy : wordOkB 4 y = true) (sx : x.size ≤ 100) (sy : y.size ≤ 100) :
    Calls Tryz.prog 70 #[.string (ruleT (x, y))] w fun e w' => e = .returned (.tuple #[.agg #[.string x, .string y], .bool true]) ∧ Below w.heap.size w w' := by
  have HCT := Lib.hid (cut_rule (y := y) hx)
  have HUX := Lib.hid (undot_dot hx)
  have HUY := Lib.hid (undot_dot hy)
  have HWX := Lib.hid hx
  have HWY := Lib.hid hy
  have P1 := Lib.hid (fun W => undotted_any (dotB x) W)
  have P2 := Lib.hid (fun W => undotted_any (dotB y) W)
  rw [HUX.out] at P1
  rw [HUY.out] at P2
  have W1 := Lib.hid (fun W => implWordOk_any 4 x W (by unfold maxLen; omega))
  have W2 := Lib.hid (fun W => implWordOk_any 4 y W (by unfold maxLen; omega))
  rw [hx] at W1
  rw [hy] at W2
  have F1 := Lib.hid (fun W => implFormatRule_any x y W (by unfold maxLen; omega))
  have HSZ : Hid ((ruleT (x, y)).size ≤ maxLen) := Lib.hid (by
    have h1 := dotB_size x
    have h2 := dotB_size y
    unfold ruleT maxLen
    rw [ByteArray.size_append, ByteArray.size_append]
    show (dotB x).size + 1 + (dotB y).size ≤ _
    omega)
  have C1 := Lib.hid (fun W => cutI_any (ruleT (x, y)) 62 W HSZ.out)
  rw [HCT.out] at C1
  obtain ⟨t, ht⟩ : ∃ t, ruleT (x, y) = t := ⟨_, rfl⟩
  rw [ht] at C1 F1 ⊢
  clear hx hy sx sy ht HUX HUY HCT HSZ
  generalize dotB x = a at *
  generalize dotB y = b at *
  go_enter Tryz.func70, Tryz.ntmps70
  go_wp2_with fail
  refine (C1.out _).mono ?_
  rintro e w1 ⟨rfl, hb1⟩
  have HB1 : Hid (Below w.heap.size w w1) := Lib.hid (((Below.refl _ w).alloc (Nat.le_refl _) _).trans (hb1.mono (by simp)))
  have HG : Hid (w1.heap[w.heap.size]? = some (.cells #[.string ⟨#[]⟩, .string ⟨#[]⟩] 120)) := Lib.hid (by rw [hb1.block _ (by simp)]; exact Array.getElem?_push_size)
  clear hb1
  go_wp2_with fail
  refine (P1.out _).mono ?_
  rintro e w2 ⟨rfl, rfl⟩
  go_wp2_with fail
  refine (P2.out _).mono ?_
  rintro e w2 ⟨rfl, rfl⟩
  go_wp2_with fail
  refine (W1.out _).mono ?_
  rintro e w2 ⟨rfl, rfl⟩
  go_wp2_with fail
  refine (W2.out _).mono ?_
  rintro e w2 ⟨rfl, rfl⟩
  go_wp2_with fail
  refine (F1.out _).mono ?_
  rintro e w3 ⟨rfl, hb3⟩
  have hlt : w.heap.size < w1.heap.size := (Array.getElem?_eq_some_iff.1 HG.out).1
  have hA : w3.heap[w.heap.size]? = some (.cells #[.string ⟨#[]⟩, .string ⟨#[]⟩] 120) := by rw [hb3.block _ (by simp; omega)]; exact (Array.getElem?_push_lt (h := hlt)).trans (by rw [← HG.out]; exact (Array.getElem?_eq_getElem hlt).symm)
  have hB : w3.heap[w1.heap.size]? = some (.cells #[.string x, .string y] 120) := by rw [hb3.block _ (by simp)]; exact Array.getElem?_push_size
  obtain ⟨a0, a1, a2, a3⟩ := rec_cells hA
  obtain ⟨b0, b1, b2, b3⟩ := rec_cells hB
  have HB3 : Hid (Below w.heap.size w w3) := Lib.hid ((HB1.out.alloc (Nat.le_of_lt hlt) _).trans (hb3.mono (by simp; omega)))
  have HNE : Hid (w.heap.size ≠ w1.heap.size) := Lib.hid (by omega)
  clear hb3 hA hB hlt
  go_wp2_with fail
  have hEnd : Below w.heap.size w ((w3.setCell ⟨w.heap.size, 0, none⟩ (.string x)).setCell ⟨w.heap.size, 1, none⟩ (.string y)) := (HB3.out.setCell (p := ⟨w.heap.size, 0, none⟩) (Nat.le_refl _) _).setCell (p := ⟨w.heap.size, 1, none⟩) (Nat.le_refl _) _
  refine ⟨rfl, .tuple #[.agg #[.string x, .string y], .bool true], ?_, rfl, ?_⟩
  · simp [results, Tryz.results70, go_sem, a0, a1]
  · exact hEnd
end Go.Proofs.YtoddpmdjjgnpgaaGreatDoor
namespace Go.Proofs.YtoddpmdjjgnpgaaGreatDoor
open Go.RowKit
set_option linter.unusedVariables false
def sysL (k : Int) (R : List RulD) (j : Nat) : List ByteArray := numB k :: (R.take j).map ruleT
theorem sysL_len {k : Int} {R : List RulD} {j : Nat} (h : j ≤ R.length) : (sysL k R j).length = j + 1 := by
  simp [sysL]; omega
theorem sysL_succ {k : Int} {R : List RulD} {j : Nat} (h : j < R.length) : sysL k R (j + 1) = sysL k R j ++ [ruleT (nthR R j)] := by
  unfold sysL
  rw [List.take_succ_eq_append_getElem h, List.map_append, nthR_lt h]
  rfl
theorem sysL_nth {k : Int} {R : List RulD} {j : Nat} (h : j < R.length) : nthS (sysL k R R.length) (j + 1) = ruleT (nthR R j) := by
  have e : nthS (sysL k R R.length) (j + 1) = nthS (R.map ruleT) j := by
    unfold sysL
    rw [List.take_length]
    rfl
  rw [e, nthS_lt (by simpa using h), List.getElem_map, nthR_lt h]
theorem sysL_join {k : Int} {R : List RulD} : ∀ j, j ≤ R.length → joinTo (sysL k R R.length) ⟨#[32]⟩ (j + 1) = rulesT (numB k) R j
  | 0, _ => joinTo_one _ _
  | j + 1, h => by
    rw [joinTo_succ _ _ (by omega), sysL_join j (by omega), sysL_nth (by omega)]
    rfl
theorem sysL_all {k : Int} {R : List RulD} : joinF (sysL k R R.length) ⟨#[32]⟩ = rulesT (numB k) R R.length := by
  unfold joinF
  rw [sysL_len (Nat.le_refl _)]
  exact sysL_join _ (Nat.le_refl _)
set_option maxRecDepth 20000 in
set_option maxHeartbeats 2000000 in
theorem implFormatSystem_any (k : Int) (l : List RulD) (a : Option Addr) (cap : Nat) (w : World) (hl : RulesIn w a l) (hlen : l.length ≤ 2 ^ 40) (hz : SzR l) (ht : Tab10 w) :
    Calls Tryz.prog 24 #[.agg #[.int .i64 k, .slice a l.length cap]] w fun e w' => e = .returned (.string (sysT0 k l)) ∧ Below w.heap.size w w' := by
  have HL := Lib.hid hl
  have HR := Lib.hid (fun W h => implRulesOk_any k l a cap W h hlen hz)
  have HA := Lib.hid (fun o => alloc_belowS w o)
  have HT := Lib.hid ht
  clear hl hz ht
  go_enter Tryz.func24, Tryz.ntmps24
  go_wp2_with fail
  refine (HR.out _ (HL.out.later (HA.out _))).mono ?_
  rintro e w2 ⟨bb, hbb, rfl, hb2⟩
  have HBB := Lib.hid hbb
  have hb0 := (hb2.block w.heap.size (by simp)).trans (alloc_at w (.cells #[.int .i64 k, .slice a l.length cap] 25))
  obtain ⟨s0, s1⟩ := sys_cells hb0
  have HW2 := Lib.hid (Below.now (HA.out _) hb2)
  clear hbb hb2 HR
  cases bb
  · have F : Hid (sysT0 k l = ⟨#[]⟩) := Lib.hid (if_neg (fun h => by have := HBB.out.2 h; cases this))
    go_wp2_with fail
    go_ret
    exact ⟨ret_str F.out.symm, HW2.out⟩
  · have HRP := Lib.hid (HBB.out.1 rfl)
    have F : Hid (sysT0 k l = joinF (sysL k l l.length) ⟨#[32]⟩) := Lib.hid (by rw [sysL_all]; exact if_pos HRP.out)
    clear HBB
    have hk1 := HRP.out.1.1
    have hn := itoa_len (n := k) (by omega) (by omega)
    have HF := Lib.hid (fun W h => implFormatInt_any k W (by omega) (by omega) h)
    go_wp2_with fail
    refine (HF.out _ (HT.out.later HW2.out)).mono ?_
    rintro e w3 ⟨rfl, hb3⟩
    have hb03 := (hb3.block w.heap.size (Array.getElem?_eq_some_iff.1 hb0).1).trans hb0
    have HW3 := Lib.hid (Below.now HW2.out hb3)
    obtain ⟨s0, s1⟩ := sys_cells ((alloc_belowS w3 (.cells #[.string (numB k)] 9)).block w.heap.size (Array.getElem?_eq_some_iff.1 hb03).1 |>.trans hb03)
    have HB1 : Hid (Bld 9 1 w (w3.alloc (.cells #[.string (numB k)] 9)) (.slice (some ⟨w3.heap.size, 0, none⟩) 1 1) 1 (strVals (sysL k l 0))) := Lib.hid ⟨World.ownsRow_lit w3 (e := 9) (size := 1) #[.string (numB k)] 1 HW3.out.size (by unfold maxLen; omega) rfl, HW3.out.alloc HW3.out.size _⟩
    have h12 := HRP.out.1.2
    clear hb3 HF hb0 hb03
    go_wp2_with fail
    clear s0 s1
    go_loopw [3, 16] (fun v i wr => ∃ j : Nat, j ≤ l.length ∧ i = .int .i64 (j : Nat) ∧ Bld 9 1 w wr v (j + 1) (strVals (sysL k l j))) (fun _ i _ => l.length - (intOf i).toNat)
    case atStart => exact ⟨0, Nat.zero_le _, rfl, HB1.out⟩
    case round =>
      clear HB1
      obtain ⟨j, hj, rfl, hbd⟩ := hrel
      obtain ⟨a3, c3, rfl⟩ := owns_form hbd.1
      have HB := Lib.hid hbd
      by_cases hlt : j < l.length
      · obtain ⟨b, off, rfl, hb, hc⟩ := (HL.out.later hbd.2).cell hlt
        obtain ⟨c1, c2⟩ := hc j hlt
        have hz2 := (HRP.out.2 _ (nthR_mem hlt)).1.2
        have F1 := Lib.hid (sysL_succ (k := k) hlt)
        clear hc hbd
        have HNE : Hid (nthR l j = ((nthR l j).1, (nthR l j).2)) := Lib.hid rfl
        rw [HNE.out] at F1
        generalize (nthR l j).1 = x at *
        generalize (nthR l j).2 = y at *
        have HFR := Lib.hid (fun W => implFormatRule_any x y W (by unfold maxLen; omega))
        generalize ruleT (x, y) = rt at *
        have HB4 := Lib.hid (HB.out.later (alloc_belowS wr (.cells #[.string x, .string y] 120)))
        clear HNE
        go_wp2_with fail
        refine (HFR.out _).mono ?_
        rintro e w5 ⟨rfl, hb5⟩
        have HB5 := Lib.hid (HB4.out.later hb5)
        clear hb5 HB4 c1 c2
        go_wp2_with (at_builtin; refine wpList_app1 rfl _ _ rfl Tryz.underlying47 Tryz.infoStr rfl (by decide) rfl HB5.out rfl rfl ?c1 ?c2 ?c3 ?c4)
        case c1 => simp [Value.oneCell']
        case c2 => unfold maxLen; omega
        case c3 => omega
        intro v2 w4 hb2
        have F2 : Hid (Bld 9 1 w w4 v2 (j + 1 + 1) (strVals (sysL k l (j + 1)))) := by
          rw [F1.out]; unfold strVals at *; rw [List.map_append]; exact Lib.hid hb2
        clear hb2
        go_wp2_with fail
        go_roundw
        case rel => exact ⟨j + 1, by omega, by go_num, F2.out⟩
        case measure => simp [intOf]; omega
      · obtain rfl : j = l.length := by omega
        have hdl := sysL_len (k := k) (Nat.le_refl l.length)
        have HZ : Hid ((joinF (sysL k l l.length) ⟨#[32]⟩).size ≤ 2 ^ 46) := Lib.hid (by
          rw [sysL_all]
          have h1 := rulesT_size (s := numB k) HRP.out l.length (Nat.le_refl _)
          have h2 : (numB k).size ≤ 100 := by first | exact Nat.le_trans hn (by omega) | (unfold numB; omega) | omega
          omega)
        have hJ := Lib.hid (implJoin_any (sysL k l l.length) ⟨#[32]⟩ a3 c3 wr (owns_strs HB.out.1) (by decide) (by decide) (by omega) (by rw [hdl]; exact owns_capS HB.out.1) HZ.out)
        rw [hdl] at hJ
        have HBW := Lib.hid hbd.2
        clear hbd hdl
        go_wp2_with fail
        refine hJ.out.mono ?_
        rintro e w5 ⟨rfl, hb5⟩
        have HB6 := Lib.hid (Below.now HBW.out hb5)
        clear hb5 hJ
        go_wp2_with fail
        go_ret
        exact ⟨ret_str F.out.symm, HB6.out⟩
end Go.Proofs.YtoddpmdjjgnpgaaGreatDoor
