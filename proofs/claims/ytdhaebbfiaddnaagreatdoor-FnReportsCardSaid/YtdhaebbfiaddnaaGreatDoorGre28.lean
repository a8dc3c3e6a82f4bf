/-
  The program's growth, GrowthOf and GrowthLine.
-/
import Derived.Test.YtdhaebbfiaddnaaGreatDoorGre14
import Derived.Deep.RegionHeld3
import Derived.IntWalk
import Derived.Test.YtdhaebbfiaddnaaGreatDoorGre26
import Derived.Test.YtdhaebbfiaddnaaGreatDoorGre15
import Derived.Maps.OwnSet
namespace Go.Proofs.YtdhaebbfiaddnaaGreatDoor
open Go.RowKit
set_option linter.unusedVariables false
/-- a block that holds a reader -/
def RdAt (W : World) (p : Nat) (k : Int) (a : Option Addr) (n cap : Nat) (q : Nat) : Prop := W.cell? ⟨p, 0, none⟩ = some (.int .i64 k) ∧ W.cell? ⟨p, 1, none⟩ = some (.slice a n cap) ∧ W.cell? ⟨p, 2, none⟩ = some (.int .i64 (q : Nat))
theorem RdAt.later {W W' : World} {p : Nat} {k : Int} {a : Option Addr} {n cap q : Nat} (h : RdAt W p k a n cap q) (hb : Below W.heap.size W W') : RdAt W' p k a n cap q := by
  obtain ⟨h1, h2, h3⟩ := h
  exact ⟨by rw [hb.cell (World.block_lt_of_cell? W _ h1)]; exact h1, by rw [hb.cell (World.block_lt_of_cell? W _ h2)]; exact h2, by rw [hb.cell (World.block_lt_of_cell? W _ h3)]; exact h3⟩
/-- what newReader hands back -/
def RetRd (k : Int) (a : Option Addr) (n cap q : Nat) (w : World) (e : Ending) (w' : World) : Prop := ∃ p, e = .returned (.pointer (some ⟨p, 0, none⟩)) ∧ RdAt w' p k a n cap q ∧ w.heap.size ≤ p ∧ Below w.heap.size w w'
set_option maxRecDepth 20000 in
set_option maxHeartbeats 2000000 in
theorem newReader_any (k : Int) (l : List RulD) (a : Option Addr) (cap : Nat) (w : World) (hl : RulesIn w a l) (hlen : l.length ≤ 2 ^ 40) (hz : SzR l) :
    Calls Tryz.prog 46 #[.agg #[.int .i64 k, .slice a l.length cap]] w (RetRd k a l.length cap (keepR l) w) := by
  have HL := Lib.hid hl
  have HS := Lib.hid (fun W h => implLongestSide_any k l a cap W h hlen hz)
  have hm := lsTo_le hz l.length (Nat.le_refl _)
  have hm2 : lsL l ≤ 9223372036854775807 := by unfold maxLen at hm; exact hm
  have hmm := @run_makeMap Tryz.prog
  have HC : Hid (keepR l = lsL l - 1) := Lib.hid rfl
  generalize keepR l = q at *
  generalize lsL l = m at *
  have e1 : max (0 : Int) ((m : Int) - 1) = (q : Int) := by have := HC.out; omega
  have hw1 : IntKind.i64.wrap ((m : Int) - 1) = (m : Int) - 1 := IntWalk.i64_in _ (by omega)
  have hb0 := alloc_belowS w (.cells #[.int .i64 k, .slice a l.length cap] 25)
  clear hl hz hm
  go_enter Tryz.func46, Tryz.ntmps46
  go_wp2_with fail
  obtain ⟨w0, hw0⟩ : ∃ w0, w0 = w.alloc (.cells #[.int .i64 k, .slice a l.length cap] 25) := ⟨_, rfl⟩
  have hbx := sys_cells (alloc_at w (.cells #[.int .i64 k, .slice a l.length cap] 25))
  rw [← hw0] at hb0 hbx
  have HBX : Hid (∀ W, Below w0.heap.size w0 W → W.cell? ⟨w.heap.size, 0, none⟩ = some (.int .i64 k) ∧ W.cell? ⟨w.heap.size, 1, none⟩ = some (.slice a l.length cap)) := Lib.hid (fun W hW => ⟨by rw [hW.cell (World.block_lt_of_cell? w0 _ hbx.1)]; exact hbx.1, by rw [hW.cell (World.block_lt_of_cell? w0 _ hbx.2)]; exact hbx.2⟩)
  have HB0 := Lib.hid hb0
  rw [← hw0]
  obtain ⟨r0, r1⟩ := hbx
  clear hw0 hb0
  go_region_held3 (fun w' => w'.cell? ⟨w.heap.size, 0, none⟩ = some (.int .i64 k) ∧ w'.cell? ⟨w.heap.size, 1, none⟩ = some (.slice a l.length cap)) (go_keep) (first
    | (go_at_call 82; refine (HS.out _ (HL.out.later (Below.now HB0.out (by repeat (first | exact Below.refl _ _ | refine Below.drew ?_ | refine below_drewN ?_ _ | refine Below.alloc ?_ (by simp; try omega) _))))).mono ?_; rintro e w6 ⟨rfl, hb6⟩; have K6 : Hid (Below w0.heap.size w0 w6) := Lib.hid (Below.now (by repeat (first | exact Below.refl _ _ | refine Below.drew ?_ | refine below_drewN ?_ _ | refine Below.alloc ?_ (by simp; try omega) _)) hb6); have t0 := (HBX.out w6 K6.out).1; have t1 := (HBX.out w6 K6.out).2; clear hb6))
  all_goals
    first
      | (have F : Hid (RetRd k a l.length cap q w (.returned (.pointer (some ⟨w6.heap.size + 1, 0, none⟩))) ((w6.alloc (.map #[] 0)).alloc (.cells #[.int .i64 k, .slice a l.length cap, .int .i64 (q : Nat), .map (some w6.heap.size)] 121))) := Lib.hid (by
           have e2 : (w6.alloc (.map #[] 0)).heap.size = w6.heap.size + 1 := by simp
           refine ⟨_, rfl, ⟨?_, ?_, ?_⟩, ?_, ?_⟩
           · rw [← e2]; simp
           · rw [← e2]; simp
           · rw [← e2]; simp
           · have h1 := HB0.out.size; have h2 := K6.out.size; omega
           · exact (((Below.now HB0.out K6.out).alloc (Below.now HB0.out K6.out).size _).alloc (by have h1 := (Below.now HB0.out K6.out).size; simp; omega) _))
         clear t0 t1 r0 r1 hmm
         go_wp2_with fail
         go_ret
         exact F.out)
      | (have F : Hid (RetRd k a l.length cap q w (.returned (.pointer (some ⟨w6.heap.size, 0, none⟩))) (w6.alloc (.cells #[.int .i64 k, .slice a l.length cap, .int .i64 (q : Nat), .map (some w0.heap.size)] 121))) := Lib.hid (by
           refine ⟨_, rfl, ⟨?_, ?_, ?_⟩, ?_, ?_⟩
           · simp
           · simp
           · simp
           · have h1 := HB0.out.size; have h2 := K6.out.size; omega
           · exact ((Below.now HB0.out K6.out).alloc (Below.now HB0.out K6.out).size _))
         clear t0 t1 r0 r1 hmm
         go_wp2_with fail
         go_ret
         exact F.out)
/-- what next hands back -/
def RetNx (R : List RulD) (e0 : ByteArray) (x : Nat) (w : World) (e : Ending) (w' : World) : Prop :=
  (okX R e0 x = true ∧ e = .returned (.tuple #[.string (nxtX R e0 x), .bool true]) ∧ Below w.heap.size w w') ∨ (okX R e0 x = false ∧ e = .returned (.tuple #[.string ⟨#[]⟩, .bool false]) ∧ Below w.heap.size w w')
set_option maxHeartbeats 400000 in
theorem next1_any (v x y : ByteArray) (box : Nat) (w : World) (hv : v.size ≤ 1000) (hb : w.cell? ⟨box, 0, none⟩ = some (.string v)) :
    Calls Tryz.prog 113 #[.agg #[.string x, .string y], .pointer (some ⟨box, 0, none⟩)] w (RetP (sufBB v x = true) w) := by
  have hb2 : ∀ o, (w.alloc o).cell? ⟨box, 0, none⟩ = some (.string v) := fun o => by rw [(alloc_belowS w o).cell (World.block_lt_of_cell? w _ hb)]; exact hb
  have HS := Lib.hid (fun W => Tryz.strings_HasSuffix v x W (by omega))
  have HB : Hid (Lib.hasSuffix v.data.toList x.data.toList = sufBB v x) := Lib.hid rfl
  have HA := Lib.hid (fun o => alloc_belowS w o)
  rw [HB.out] at HS
  generalize sufBB v x = bb at *
  go_enter Tryz.func113, Tryz.ntmps113
  go_wp2_with fail
  refine (HS.out _).mono ?_
  rintro e w2 ⟨rfl, rfl⟩
  have F : Hid (RetP (bb = true) w (.returned (.bool bb)) (w.alloc (.cells #[.string x, .string y] 36))) := Lib.hid ⟨bb, Iff.rfl, rfl, HA.out _⟩
  go_wp2_with fail
  go_ret
  exact F.out
set_option maxRecDepth 20000 in
set_option maxHeartbeats 2000000 in
theorem readerNext_any (k : Int) (R : List RulD) (p : Nat) (e0 : ByteArray) (x : Nat) (a : Option Addr) (cap : Nat) (w : World) (hl : RulesIn w a R) (hlen : R.length ≤ 2 ^ 40) (hr : RdAt w p k a R.length cap (keepR R)) (hx : x < 26) (he : e0.size ≤ 900) (hq : keepR R ≤ 1000) :
    Calls Tryz.prog 84 #[.pointer (some ⟨p, 0, none⟩), .string e0, .int .i64 (x : Nat)] w (RetNx R e0 x w) := by
  have HL := Lib.hid hl
  have HR := Lib.hid hr
  have HLT := Lib.hid (fun W => letterOf_any x W hx)
  have HSZ : Hid ((e0 ++ letterN x).size = e0.size + 1) := Lib.hid (by rw [ByteArray.size_append, letterN_size])
  have hos := letterN_size x
  have hs2 : ¬ 9223372036854775807 < e0.size + 1 := by omega
  have hb0 := alloc_belowS w (.cells #[.string e0] 9)
  obtain ⟨w0, hw0⟩ : ∃ w0, w0 = w.alloc (.cells #[.string e0] 9) := ⟨_, rfl⟩
  have hbh : w0.heap[w.heap.size]? = some (.cells #[.string e0] 9 (0, 0)) := by rw [hw0]; exact alloc_at _ _
  clear hl hr
  go_enter Tryz.func84, Tryz.ntmps84
  go_wp2_with fail
  rw [← hw0] at hb0 ⊢
  have HB0 := Lib.hid hb0
  have HBH : Hid (∀ W, Below w0.heap.size w0 W → W.cell? ⟨w.heap.size, 0, none⟩ = some (.string e0) ∧ W.frozen? ⟨w.heap.size, 0, none⟩ = false) := Lib.hid (fun W hW => by
    have h1 := (hW.block w.heap.size (by rw [hw0]; simp)).trans hbh
    exact ⟨by simp [World.cell?, h1], by simp [World.frozen?, h1]⟩)
  obtain ⟨r0, r1⟩ := HBH.out w0 (Below.refl _ _)
  clear hw0 hb0 hbh
  have kr := Below.refl w0.heap.size w0
  go_region_law (first
    | (go_simp; go_at_call 53; refine (HLT.out _).mono ?_; rintro e w2 ⟨rfl, hb2⟩; dsimp only; have K2 : Hid (Below w0.heap.size w0 w2) := Lib.hid (Below.now (by repeat (first | exact Below.refl _ _ | refine Below.drew ?_ | refine below_drewN ?_ _)) hb2); have t0 := (HBH.out w2 K2.out).1; have t1 := (HBH.out w2 K2.out).2; clear hb2))
  all_goals
    have hcb : (w2.setCell ⟨w.heap.size, 0, none⟩ (.string (e0 ++ letterN x))).cell? ⟨w.heap.size, 0, none⟩ = some (.string (e0 ++ letterN x)) := by go_simp
    have hbw : Below w.heap.size w (w2.setCell ⟨w.heap.size, 0, none⟩ (.string (e0 ++ letterN x))) := (Below.now HB0.out K2.out).setCell (Nat.le_refl _) _
    have HOK : Hid (okX R e0 x = !endsR R (e0 ++ letterN x)) := Lib.hid rfl
    have HNX : Hid (nxtX R e0 x = (e0 ++ letterN x).extract ((e0 ++ letterN x).size - keepR R) (e0 ++ letterN x).size) := Lib.hid rfl
    clear t0 t1 r0 r1 HLT HBH K2 hos hs2
    generalize (w2.setCell ⟨w.heap.size, 0, none⟩ (.string (e0 ++ letterN x))) = w3 at *
    generalize e0 ++ letterN x = v at *
    have hvs : v.size ≤ 901 := by have := HSZ.out; omega
    have HBW := Lib.hid hbw
    have HEI : Hid (endsR R v = true ↔ ∃ r ∈ R, sufBB v r.1 = true) := Lib.hid endsR_iff
    have HCF := Lib.hid (containsFuncR_any 113 #[.pointer (some ⟨w.heap.size, 0, none⟩)] (fun r => sufBB v r.1 = true) R a cap w3 (HL.out.later hbw) hlen w3.heap.size (Nat.le_refl _) (fun j hj W hW => next1_any v _ _ w.heap.size W (by omega) (by rw [hW.cell (World.block_lt_of_cell? w3 _ hcb)]; exact hcb)) (enters_of Tryz.func113 (by kernel_rfl) rfl))
    obtain ⟨q0, q1, q2⟩ := HR.out.later hbw
    clear hbw
    go_wp2_with fail
    refine HCF.out.mono ?_
    rintro e w4 ⟨bb, hbb, rfl, hb4⟩
    have hcb4 : w4.cell? ⟨w.heap.size, 0, none⟩ = some (.string v) := by rw [hb4.cell (World.block_lt_of_cell? w3 _ hcb)]; exact hcb
    have p0 : w4.cell? ⟨p, 2, none⟩ = some (.int .i64 (keepR R : Nat)) := by rw [hb4.cell (World.block_lt_of_cell? w3 _ q2)]; exact q2
    have HB4 := Lib.hid (Below.now HBW.out hb4)
    have HBB := Lib.hid hbb
    clear hbb hb4 HCF hcb q0 q1 q2
    cases bb
    · have hen : endsR R v = false := by
        cases h : endsR R v
        · rfl
        · have := HBB.out.2 (HEI.out.1 h); cases this
      have hok : okX R e0 x = true := by rw [HOK.out, hen]; rfl
      have HOKT := Lib.hid hok
      clear hen hok HOK HBB HEI
      generalize keepR R = q at *
      have HF : Hid (∀ W, Below w.heap.size w W → RetNx R e0 x w (.returned (.tuple #[.string (v.extract (v.size - q) v.size), .bool true])) W) := Lib.hid (fun W hW => .inl ⟨HOKT.out, by rw [HNX.out], hW⟩)
      have hw9 : IntKind.i64.wrap ((v.size : Int) - (q : Int)) = (v.size : Int) - (q : Int) := IntWalk.i64_in _ (by omega)
      have hmx : max (0 : Int) ((v.size : Int) - (q : Int)) = ((v.size - q : Nat) : Int) := by omega
      have hl1 : ((v.size - q : Nat) : Int) ≤ (v.size : Int) := by omega
      have hl2 : v.size - q ≤ v.size := by omega
      go_wp2_with fail
      go_quiet (fail)
      clear hw9 hmx hl1 hl2 hcb4 p0
      go_wp2_with fail
      go_ret2
      exact HF.out _ (by have h := HB4.out; exact ⟨h.os, h.tape, h.output, h.size, h.block⟩)
    · have hen : endsR R v = true := HEI.out.2 (HBB.out.1 rfl)
      have F : Hid (RetNx R e0 x w (.returned (.tuple #[.string ⟨#[]⟩, .bool false])) w4) := Lib.hid (.inr ⟨by rw [HOK.out, hen]; rfl, rfl, HB4.out⟩)
      clear hen HOK HBB HEI hcb4 p0
      go_wp2_with fail
      go_ret2
      exact F.out
end Go.Proofs.YtdhaebbfiaddnaaGreatDoor
namespace Go.Proofs.YtdhaebbfiaddnaaGreatDoor
open Go.RowKit Go.Maps Go.WideMaps
set_option linter.unusedVariables false
theorem wpList_insert_ownG {H : Type} {P : Program} (w : World) {ops : Array Oper} {rest : List Oper} {o : Oper} {a : Act} {Q : Exit → Act → World → Prop}
    (hg : o.guard = none) (m x v : Operand) (t : TypeId) (hop : o.op = Op.insert t m x v)
    (k e : TypeId) (K : Keyed P k) (ht : P.underlying t = some (.map k e)) (R : Value → Option (DataW H × List MemPlace)) (b n : Nat) (D : DataW H)
    (hm : a.eval m = .map (some b)) (hown : w.ownsMap P k R b n D) (hn : n < maxLen) (key val : Value) (kl : Lit) (hx : a.eval x = key) (hv : a.eval v = val) (hkey : keyOf P k key = some kl)
    (d : DataW H) (ps : List MemPlace) (hval : R val = some (d, ps))
    (hK : ∀ w', w'.ownsMap P k R b (n + 1) (D.put kl d) → w.grownBy w' (some b) → wpList P ops Q rest (a.put o.dst undef) w') :
    wpList P ops Q (o :: rest) a w := by
  refine wpList_plain hg fun K' hK' => ?_
  obtain ⟨w', hrun, r1, r2⟩ := hown.update K ht hn hkey hval
  unfold Oper.wp
  simp [execOp, hop, hm, hx, hv, hrun, Result.andThen]
  exact hK' _ _ (hK w' r1 r2)
theorem keySG : Keyed Tryz.prog 9 := string_keyed Tryz.underlying9
theorem keyOkG (s : ByteArray) (h : s.size ≤ maxLen) : keyOf Tryz.prog 9 (.string s) = some (keyL s) := keyOf_string_mk Tryz.underlying9 h
theorem zeroIntG (w : World) : (zeroValue 3).run Tryz.prog w = .ok (.int .i64 0) w := by kernel_rfl
abbrev OwnM (w : World) (b m : Nat) (D : DataW Unit) : Prop := w.ownsMap Tryz.prog 9 (plainElem (H := Unit) Tryz.prog 3) b m D
theorem belowGrown {w w' : World} (h : Below w.heap.size w w') : w.grownBy w' none := ⟨h.os, h.tape, h.output, h.size, fun k hk _ => h.block k hk⟩
theorem own_ne_map {w : World} {base : Nat} {T : TypeId} {size : Nat} {v : Value} {n : Nat} {xs : List Value} {b m : Nat} {D : DataW Unit} (h : w.ownsRow base T size v n xs) (hm : OwnM w b m D) : some b ≠ v.ownBlock := fun e => by
  obtain ⟨es, clock, hb, _⟩ := hm
  rcases h.2 with ⟨rfl, _⟩ | ⟨g, cap, cur, rfl, _, hg, _⟩
  · cases e
  · simp only [Value.ownBlock, Option.some.injEq] at e
    subst e
    rw [hb] at hg; cases hg
theorem own_ne_iter {w : World} {base : Nat} {T : TypeId} {size : Nat} {v : Value} {n : Nat} {xs : List Value} {b r m : Nat} {D : DataW Unit} {left : Lit → Bool} {cnt : Nat} (h : w.ownsRow base T size v n xs) (hm : w.ranges Tryz.prog 9 (plainElem (H := Unit) Tryz.prog 3) b r m D left cnt) : some r ≠ v.ownBlock := fun e => by
  obtain ⟨_, _, _, _, _, _, _, _, _, hit, _⟩ := hm
  rcases h.2 with ⟨rfl, _⟩ | ⟨g, cap, cur, rfl, _, hg, _⟩
  · cases e
  · simp only [Value.ownBlock, Option.some.injEq] at e
    subst e
    rw [hit] at hg; cases hg
theorem bldMap {T : TypeId} {w wr wr' : World} {v : Value} {n : Nat} {xs : List Value} {b : Nat} (h : Bld T 1 w wr v n xs) (hg : wr.grownBy wr' (some b)) (hne : some b ≠ v.ownBlock) (hb : w.heap.size ≤ b) : Bld T 1 w wr' v n xs :=
  keptB h hg (fun k hk e => hne (by rw [hk]; exact e)) (fun k hk => by cases hk; exact hb)
theorem invKG (key : Value) (kl : Lit) (h : keyOf Tryz.prog 9 key = some kl) : ∃ x, key = Value.string x := by
  obtain ⟨s, h1, _⟩ := string_of_keyOf Tryz.underlying9 h
  exact ⟨s, h1⟩
theorem invVG (v : Value) (y : DataW Unit × List MemPlace) (h : plainElem (H := Unit) Tryz.prog 3 v = some y) : ∃ c, v = Value.int .i64 c := by
  obtain ⟨c, h1, _⟩ := plainElem_int_inv Tryz.underlying3 h
  exact ⟨c, h1⟩
theorem wf64 {c : Nat} (h : c ≤ 34359738368) : (Lit.int .i64 (c : Int)).wf = true := by
  have h1 : IntKind.i64.min = -9223372036854775808 := by decide
  have h2 : IntKind.i64.max = 9223372036854775807 := by decide
  simp only [Lit.wf, h1, h2, Bool.and_eq_true, decide_eq_true_eq]; omega
set_option maxRecDepth 100000 in
set_option maxHeartbeats 4000000 in
theorem growth_any (kn nn : Nat) (R : List RulD) (a : Option Addr) (cap : Nat) (w : World) (hl : RulesIn w a R) (hlen : R.length ≤ 2 ^ 40) (hsp : sysP (kn : Int) R) (hnn : nn ≤ 16) :
    Calls Tryz.prog 49 #[.agg #[.int .i64 (kn : Nat), .slice a R.length cap], .int .i64 (nn : Nat)] w (RetSl 3 1 (growL R kn nn).length (zVals (growL R kn nn)) w) := by
  obtain ⟨h12, hsz, hk1, hk4⟩ := sys_sizes hsp
  have hkn : kn ≤ 4 := by omega
  have hz : SzR R := fun j hj => by have := hsz j hj; unfold maxLen; omega
  have HL := Lib.hid hl
  have HN := Lib.hid (fun W h => newReader_any (kn : Nat) R a cap W h hlen hz)
  have hk7 : keepR R ≤ 8 := by
    have key : ∀ j, j ≤ R.length → lsTo R j ≤ 8 := fun j => by
      induction j with
      | zero => intro _; exact Nat.zero_le _
      | succ j ih =>
        intro h
        have h1 := ih (by omega)
        have h2 := (hsz j (by omega)).1
        show max _ _ ≤ _
        omega
    have h1 := key R.length (Nat.le_refl _)
    unfold keepR lsL
    omega
  have HK7 := Lib.hid hk7
  have hmm := @run_makeMap Tryz.prog
  have hb0 := alloc_belowS w (.cells #[.int .i64 (kn : Nat), .slice a R.length cap] 25)
  have hbx := alloc_at w (.cells #[.int .i64 (kn : Nat), .slice a R.length cap] 25)
  have hk0 := keyOkG ⟨#[]⟩ (by decide)
  clear hl hz hk7 hsp hsz
  go_enter Tryz.func49, Tryz.ntmps49
  go_wp2_with fail
  refine (HN.out _ (HL.out.later hb0)).mono ?_
  rintro e w5 ⟨p, rfl, hrd, hp, hb5⟩
  have HB5 := Lib.hid (Below.now hb0 hb5)
  have hs5 : w.heap.size < w5.heap.size := by have := hb5.size; simp at this; omega
  have HBX : Hid (∀ W2, Below w5.heap.size w5 W2 → W2.cell? ⟨w.heap.size, 0, none⟩ = some (.int .i64 (kn : Nat))) := Lib.hid (fun W2 hW2 => (sys_cells ((hW2.block w.heap.size hs5).trans ((hb5.block w.heap.size (by simp)).trans hbx))).1)
  have HRD := Lib.hid hrd
  clear hrd hp hb5 hb0 hbx HN
  go_wp2_with (first
    | (refine wpList_insert_ownG _ rfl _ _ _ 122 rfl 9 3 keySG Tryz.underlying122 (plainElem (H := Unit) Tryz.prog 3) w5.heap.size 0 (.map []) rfl (World.ownsMap_made _ _ _ _) (by decide) _ _ _ rfl rfl hk0 _ [] (plainElem_int Tryz.underlying3 (by decide)) ?_; intro w6 hown6 hgrow6)
    | go_in)
  have HB6 : Hid (Below w5.heap.size w5 w6) := Lib.hid ((alloc_belowS w5 (.map #[] 0)).grown hgrow6 (by simp) (fun j hj => by cases hj; exact Nat.le_refl _))
  have HO6 : Hid (OwnM w6 w5.heap.size 1 (DataW.put (.map []) (keyL ⟨#[]⟩) (.lit (.int .i64 1)))) := Lib.hid hown6
  have HR6 : Hid (RepM (DataW.put (.map []) (keyL ⟨#[]⟩) (.lit (.int .i64 1))) [(⟨#[]⟩, 1)]) := Lib.hid (RepM.nil.new 1 (fun p hp => (by cases hp)))
  have h65 := HB6.out.size
  have hl6 := hown6.lt
  have HL6 : Hid (Bld 3 1 w5 (w6.alloc (.cells #[.int .i64 1] 3)) (.slice (some ⟨w6.heap.size, 0, none⟩) 1 1) 1 (zVals (growL R kn 0))) := Lib.hid
    ⟨World.ownsRow_lit w6 (base := w5.heap.size) #[.int .i64 1] 1 h65 (by unfold maxLen; omega) (by simp), HB6.out.alloc h65 _⟩
  have HO6a : Hid (OwnM (w6.alloc (.cells #[.int .i64 1] 3)) w5.heap.size 1 (DataW.put (.map []) (keyL ⟨#[]⟩) (.lit (.int .i64 1)))) := Lib.hid (HO6.out.alloc _)
  have HWS := Lib.hid (WayAt.start R kn)
  clear hown6 hgrow6 hk0 hl6
  go_wp2_with fail
  go_loopw [6, 7, 21] (fun vm vo vi wr => ∃ (i : Nat) (W : WayD) (b m : Nat) (D : DataW Unit), i ≤ nn ∧ vi = .int .i64 (i : Nat) ∧ vm = .map (some b) ∧ WayAt R kn i W ∧ RepM D W ∧ OwnM wr b m D ∧ w5.heap.size ≤ b ∧ Bld 3 1 w5 wr vo (i + 1) (zVals (growL R kn i))) (fun _ _ vi _ => nn - (intOf vi).toNat)
  case atStart => exact ⟨0, _, _, _, _, Nat.zero_le _, rfl, rfl, HWS.out, HR6.out, HO6a.out, Nat.le_refl _, HL6.out⟩
  case round =>
    clear HB6 HO6 HR6 HL6 HO6a HWS h65
    obtain ⟨i, W, b, m, D, hi, rfl, rfl, hwa, hrep, hom, hb5b, hbd⟩ := hrel
    obtain ⟨go, co, rfl⟩ := owns_slot hbd.1 (by omega)
    have HWA := Lib.hid hwa
    have HREP := Lib.hid hrep
    have HOM := Lib.hid hom
    have HB := Lib.hid hbd
    clear hwa hrep hom hbd
    by_cases hlt : i < nn
    · have HOMa := Lib.hid (World.ownsMap.alloc HOM.out (.map #[] 0))
      have HO2 : Hid (OwnM (wr.alloc (.map #[] 0)) wr.heap.size 0 (.map [])) := Lib.hid (World.ownsMap_made _ _ _ _)
      have HBa := Lib.hid (HB.out.later (alloc_belowS wr (.map #[] 0)))
      have hbwr := HOM.out.lt
      have hw5r := HB.out.2.size
      have HRS : Hid (doneW (Maps.has D) W = []) := Lib.hid (doneW_start HREP.out)
      go_wp2_with (first
        | (at_range; refine wpList_range_own _ rfl _ 122 rfl 9 3 keySG Tryz.underlying122 _ b m _ rfl HOMa.out ?_; intro w8 hrg8 hg8 hs8)
        | go_in)
      have hs8' : w8.heap.size = wr.heap.size + 1 + 1 := by rw [hs8]; simp
      have hrr : (wr.alloc (.map #[] 0)).heap.size = wr.heap.size + 1 := by simp
      rw [hrr] at hrg8 ⊢
      have HRG8 := Lib.hid hrg8
      have HO8 : Hid (OwnM w8 wr.heap.size 0 (.map [])) := Lib.hid (HO2.out.kept hg8 (by simp))
      have HB8 : Hid (Bld 3 1 w5 w8 (.slice (some ⟨go, 0, none⟩) (i + 1) co) (i + 1) (zVals (growL R kn i))) := Lib.hid (keptB HBa.out hg8 (fun k hk e => (by cases e)) (fun k hk => (by cases hk)))
      clear hrg8 hg8 hs8 HO2 HOMa HBa HOM HB
      go_frame
      generalize hb2 : wr.heap.size = b2 at *
      have hbb2 : b < b2 := hbwr
      clear hb2 hbwr hs8' hrr
      generalize hW : wr = wr0 at *
      clear hW
      go_loopw [9] (fun vs wr2 => ∃ (left : Lit → Bool) (cnt m2 : Nat) (V : WayD) (D2 : DataW Unit), vs = .int .i64 ((wsum R kn 0 V : Nat) : Int) ∧ wr2.ranges Tryz.prog 9 (plainElem (H := Unit) Tryz.prog 3) b (b2 + 1) m D left cnt ∧ OwnM wr2 b2 m2 D2 ∧ m2 ≤ wsum R kn 0 V ∧ RepM D2 V ∧ WayG R kn (doneW left W) 0 ⟨#[]⟩ 0 V ∧ Bld 3 1 w5 wr2 (.slice (some ⟨go, 0, none⟩) (i + 1) co) (i + 1) (zVals (growL R kn i)))
        (fun _ wr2 => wr2.rangeLeft b (b2 + 1))
      case atStart => exact ⟨_, _, 0, [], .map [], rfl, HRG8.out, HO8.out, Nat.zero_le _, RepM.nil, by rw [HRS.out]; exact WayG.start _ _ _ _, HB8.out⟩
      case round =>
        clear HRG8 HO8 HB8 HRS
        obtain ⟨left, cnt, m2, V, D2, rfl, hrg, hom2, hm2, hrep2, hwg, hbd⟩ := hrel
        have HRG := Lib.hid hrg
        have HO2 := Lib.hid hom2
        have HP2 := Lib.hid hrep2
        have HWG := Lib.hid hwg
        have HB := Lib.hid hbd
        have hsum : wsum R kn 0 V ≤ 17179869184 := by
          have h1 := hwg.le0 hkn HWA.out
          have h2 := pow16 (show i + 1 ≤ 17 by omega)
          omega
        clear hrg hom2 hrep2 hwg hbd
        go_wp2_with (first
          | (at_next; refine wpList_next_ranges _ rfl _ rfl 9 keySG (plainElem (H := Unit) Tryz.prog 3) Value.string (Value.int .i64) invKG invVG b (b2 + 1) m _ _ _ rfl HRG.out ?_ ?_)
          | go_in)
        · intro _ hl0
          have HWN := Lib.hid (HWG.out.done HWA.out hl0)
          have HSU : Hid (((wsum R kn 0 V : Nat) : Int) = ((paths R kn (i + 1) ⟨#[]⟩ : Nat) : Int)) := Lib.hid (by rw [HWN.out.eq 0, Nat.add_zero])
          clear hl0
          generalize wsum R kn 0 V = su at *
          have HOA : Hid (Bld 3 1 w5 (wr.alloc (.cells #[.int .i64 (su : Int)] 3)) (.slice (some ⟨go, 0, none⟩) (i + 1) co) (i + 1) (zVals (growL R kn i))) := Lib.hid (HB.out.later (alloc_belowS _ _))
          have HO2a := Lib.hid (World.ownsMap.alloc HO2.out (.cells #[.int .i64 (su : Int)] 3))
          have HN1 : Hid ([Value.int .i64 (su : Int)].length = 1 * 1) := Lib.hid rfl
          have HN2 : Hid (∀ u ∈ [Value.int .i64 (su : Int)], u.oneCell' = true) := Lib.hid (fun u hu => by rw [List.mem_singleton.1 hu]; rfl)
          go_wp2_with (at_builtin; refine wpList_appM rfl (.tmp 54) (.tmp 56) rfl Tryz.underlying49 Tryz.infoInt rfl (by decide) rfl HOA.out rfl (Src.lit _) HN1.out HN2.out ?a1 ?a2 ?a3)
          case a1 => unfold maxLen; omega
          case a2 => omega
          intro v4 w4 hb4 hg4 ho4
          have HB4 : Hid (Bld 3 1 w5 w4 v4 (i + 1 + 1) (zVals (growL R kn (i + 1)))) := Lib.hid (by
            rw [growL_succ, zVals_app, ← HSU.out]; exact hb4)
          have HO4 : Hid (OwnM w4 b2 m2 D2) := Lib.hid (HO2a.out.kept hg4 (own_ne_map HOA.out.1 HO2a.out))
          clear hb4 hg4 ho4
          go_wp2_with fail
          go_roundw
          case rel => exact ⟨i + 1, V, b2, m2, D2, by omega, by go_num, rfl, HWN.out, HP2.out, HO4.out, by omega, HB4.out⟩
          case measure => simp [intOf]; omega
        · intro x c kl yd yp w9 cnt9 hkey hlk hv hat hrg9 hlt9 hg9 hs9 hen
          obtain ⟨s', hs', hkl, _⟩ := string_of_keyOf Tryz.underlying9 hkey
          cases hs'
          obtain ⟨c', hc', hy, _⟩ := plainElem_int_inv Tryz.underlying3 hv
          cases hc'
          cases hy
          subst hkl
          obtain ⟨j, hj, hje, hjc⟩ : ∃ j, ∃ hj : j < W.length, W[j].1 = x ∧ (W[j].2 : Int) = c := by
            rcases HREP.out.look x with ⟨j, hj, h1, h2⟩ | ⟨h1, h2⟩
            · have h3 := (h2 (.lit (.bool true))).symm.trans (hat (.lit (.bool true)))
              simp only [DataW.lit.injEq, Lit.int.injEq, true_and] at h3
              exact ⟨j, hj, h1, h3⟩
            · have h3 := (h2 (.lit (.bool true))).symm.trans (hat (.lit (.bool true)))
              simp at h3
          subst hje hjc
          have HAP := HREP.out.1
          have hesz : W[j].1.size ≤ 8 := by
            have h1 := HWA.out.short _ (List.getElem_mem hj)
            have h2 := HK7.out
            omega
          have HCP : Hid (1 ≤ W[j].2) := Lib.hid (HWA.out.pos _ (List.getElem_mem hj))
          have hcb : W[j].2 ≤ 17179869184 := by
            have h2 := wsum_take_le R kn 0 W (j + 1)
            rw [wsum_take _ _ _ _ hj, paths0] at h2
            have h4 := HWA.out.eq 0
            have h5 := paths_le (R := R) hkn (i + 0) ⟨#[]⟩
            have h6 := pow16 (show i + 0 ≤ 17 by omega)
            omega
          have HROW : Hid (∀ V, WayG R kn (doneW left W) kn W[j].1 W[j].2 V → WayG R kn (doneW (fun z => left z && !z.sameKey (keyL W[j].1)) W) 0 ⟨#[]⟩ 0 V) := Lib.hid (fun V h => h.row HAP hj hlk _ _)
          have HLE : Hid (∀ V x, x ≤ kn → WayG R kn (doneW left W) x W[j].1 W[j].2 V → wsum R kn 0 V ≤ 17179869184) := Lib.hid (fun V x hx h => by
            have h1 := WayG.le hkn HAP HWA.out hj hlk hx h
            have h2 := pow16 (show i + 1 ≤ 17 by omega)
            omega)
          have HWJ : Hid (WayG R kn (doneW left W) 0 W[j].1 W[j].2 V) := Lib.hid HWG.out.other
          have HRG9 : Hid (w9.ranges Tryz.prog 9 (plainElem (H := Unit) Tryz.prog 3) b (b2 + 1) m D (fun z => left z && !z.sameKey (keyL W[j].1)) cnt9) := Lib.hid hrg9
          have HO9 : Hid (OwnM w9 b2 m2 D2) := Lib.hid (HO2.out.kept hg9 (by simp))
          have HB9 : Hid (Bld 3 1 w5 w9 (.slice (some ⟨go, 0, none⟩) (i + 1) co) (i + 1) (zVals (growL R kn i))) := Lib.hid (bldMap HB.out hg9 (own_ne_iter HB.out.1 HRG.out) (by omega))
          have HLO := Lib.hid HRG.out.left_eq
          have hkb := HBX.out w9 HB9.out.2
          clear hrg9 hat hlk hkey hv hg9 hs9 HAP HO2 HB HWG HRG
          generalize (fun z => left z && !z.sameKey (keyL W[j].1)) = lf at *
          generalize W[j].1 = e at *
          generalize W[j].2 = cn at *
          go_wp2_with fail
          generalize hW : wr = wr1 at *
          have HWR := Lib.hid hW
          clear hW
          go_loopw [9, 33] (fun vs vx wr => ∃ (x m2 : Nat) (V : WayD) (D2 : DataW Unit), x ≤ kn ∧ vx = .int .i64 (x : Nat) ∧ vs = .int .i64 ((wsum R kn 0 V : Nat) : Int) ∧ wr.ranges Tryz.prog 9 (plainElem (H := Unit) Tryz.prog 3) b (b2 + 1) m D lf cnt9 ∧ OwnM wr b2 m2 D2 ∧ m2 ≤ wsum R kn 0 V ∧ RepM D2 V ∧ WayG R kn (doneW left W) x e cn V ∧ Bld 3 1 w5 wr (.slice (some ⟨go, 0, none⟩) (i + 1) co) (i + 1) (zVals (growL R kn i))) (fun _ vx _ => kn - (intOf vx).toNat)
          case atStart => exact ⟨0, m2, V, D2, Nat.zero_le _, rfl, rfl, HRG9.out, HO9.out, hm2, HP2.out, HWJ.out, HB9.out⟩
          case round =>
            clear HRG9 HO9 HWJ HB9 HP2 hm2 hsum hkb hen
            obtain ⟨x, m2, V, D2, hx, rfl, rfl, hrg, hom2, hm2, hrep2, hwg, hbd⟩ := hrel
            have HRG := Lib.hid hrg
            have HO2 := Lib.hid hom2
            have HP2 := Lib.hid hrep2
            have HWG := Lib.hid hwg
            have HB := Lib.hid hbd
            have hsum : wsum R kn 0 V ≤ 17179869184 := HLE.out V x hx hwg
            clear hrg hom2 hrep2 hwg hbd
            by_cases hlx : x < kn
            · have HNX := Lib.hid (fun W2 h1 h2 => readerNext_any (kn : Nat) R p e x a cap W2 h1 hlen h2 (by omega) (by omega) (by have := HK7.out; omega))
              go_wp2_with fail
              refine (HNX.out _ (HL.out.later (Below.now HB5.out HB.out.2)) (HRD.out.later HB.out.2)).mono ?_
              rintro e9 w10 (⟨hok, rfl, hb10⟩ | ⟨hok, rfl, hb10⟩)
              · have HOK := Lib.hid hok
                have hg10 := belowGrown hb10
                have HRG1 := Lib.hid (HRG.out.kept hg10 (by simp) (by simp))
                have HO1 : Hid (OwnM w10 b2 m2 D2) := Lib.hid (HO2.out.kept hg10 (by simp))
                have HB1 := Lib.hid (HB.out.later hb10)
                have hns : (nxtX R e x).size ≤ 8 := by have h1 := cutR_size R (e ++ letterN x); have h2 := HK7.out; have h3 : (nxtX R e x).size ≤ keepR R := h1; omega
                have hkn2 := keyOkG (nxtX R e x) (by unfold maxLen; omega)
                clear hok hb10 hg10 HNX HRG HO2 HB
                have HWO := Lib.hid (fun a ha h => WayG.old (a := a) HWG.out HOK.out ha h)
                have HWN := Lib.hid (WayG.new HWG.out HOK.out HCP.out)
                have HLK := Lib.hid (HP2.out.look (nxtX R e x))
                generalize nxtX R e x = nx at *
                go_wp2_with (first
                  | (at_lookup; refine wpList_lookup_own_int _ rfl _ _ 122 rfl 9 3 .i64 keySG Tryz.underlying122 Tryz.underlying3 (zeroIntG _) b2 m2 D2 rfl HO1.out _ _ rfl hkn2 ?k4)
                  | go_in)
                intro c0 hat0 hwc0
                rcases HLK.out with ⟨aa, haa, he1, hat1⟩ | ⟨hno, hat1⟩
                · have hc0 : c0 = (V[aa].2 : Int) := by
                    have h := (hat1 (.lit (.int .i64 0))).symm.trans hat0
                    simp only [DataW.lit.injEq, Lit.int.injEq, true_and] at h
                    exact h.symm
                  have hva : V[aa].2 ≤ 17179869184 := by
                    have h2 := wsum_take_le R kn 0 V (aa + 1)
                    rw [wsum_take _ _ _ _ haa, paths0] at h2
                    omega
                  have HV3 := Lib.hid (HWO.out aa haa he1)
                  have HP3 : Hid (RepM (D2.put (keyL nx) (.lit (.int .i64 ((V[aa].2 + cn : Nat) : Int)))) (addW V aa cn)) := Lib.hid (by rw [← he1]; exact HP2.out.old haa cn)
                  have HS3 : Hid (wsum R kn 0 (addW V aa cn) = wsum R kn 0 V + cn) := Lib.hid (by rw [wsum_add haa, paths0, Nat.mul_one])
                  subst hc0
                  clear hat0 hat1 he1 HWO HWN HLK hwc0
                  generalize addW V aa cn = V3 at *
                  generalize V[aa].2 = va at *
                  have hcc : (va : Int) + (cn : Int) = ((va + cn : Nat) : Int) := by omega
                  have HWF := Lib.hid (plainElem_int (H := Unit) Tryz.underlying3 (wf64 (show va + cn ≤ 34359738368 by omega)))
                  rw [← hcc] at HWF HP3
                  clear hcc
                  have hmx : m2 < maxLen := by unfold maxLen; omega
                  go_wp2_with (first
                    | (at_mapUpdate; (refine wpList_mapUpdate_own _ rfl _ _ _ 122 rfl 9 3 keySG Tryz.underlying122 (plainElem (H := Unit) Tryz.prog 3) b2 m2 D2 rfl HO1.out hmx _ _ _ rfl rfl hkn2 _ [] HWF.out ?_); intro w11 hown11 hgr11)
                    | go_in)
                  have HB11 : Hid (Bld 3 1 w5 w11 (.slice (some ⟨go, 0, none⟩) (i + 1) co) (i + 1) (zVals (growL R kn i))) := Lib.hid (bldMap HB1.out hgr11 (own_ne_map HB1.out.1 HO1.out) (by omega))
                  have HRG11 := Lib.hid (HRG1.out.kept hgr11 (by simp; omega) (by simp))
                  have HO11 := Lib.hid hown11
                  have hcp := HCP.out
                  clear hown11 hgr11 hmx hkn2
                  go_wp2_with fail
                  go_roundw
                  case rel => exact ⟨x + 1, m2 + 1, V3, _, by omega, by go_num, by rw [HS3.out]; go_num, HRG11.out, HO11.out, by rw [HS3.out]; omega, HP3.out, HV3.out, HB11.out⟩
                  case measure => simp [intOf]; omega
                · have hc0 : c0 = 0 := by
                    have h := (hat1 (.lit (.int .i64 0))).symm.trans hat0
                    simp only [DataW.lit.injEq, Lit.int.injEq, true_and] at h
                    exact h.symm
                  have HP3 := Lib.hid (HP2.out.new cn hno)
                  have HS3 : Hid (wsum R kn 0 (V ++ [(nx, cn)]) = wsum R kn 0 V + cn) := Lib.hid (by rw [wsum_app, wsum_one, paths0, Nat.mul_one])
                  subst hc0
                  clear hat0 hat1 hno HWO HLK hwc0
                  generalize V ++ [(nx, cn)] = V3 at *
                  have HWF := Lib.hid (plainElem_int (H := Unit) Tryz.underlying3 (wf64 (show cn ≤ 34359738368 by omega)))
                  have hmx : m2 < maxLen := by unfold maxLen; omega
                  go_wp2_with (first
                    | (at_mapUpdate; (refine wpList_mapUpdate_own _ rfl _ _ _ 122 rfl 9 3 keySG Tryz.underlying122 (plainElem (H := Unit) Tryz.prog 3) b2 m2 D2 rfl HO1.out hmx _ _ _ rfl rfl hkn2 _ [] HWF.out ?_); intro w11 hown11 hgr11)
                    | go_in)
                  have HB11 : Hid (Bld 3 1 w5 w11 (.slice (some ⟨go, 0, none⟩) (i + 1) co) (i + 1) (zVals (growL R kn i))) := Lib.hid (bldMap HB1.out hgr11 (own_ne_map HB1.out.1 HO1.out) (by omega))
                  have HRG11 := Lib.hid (HRG1.out.kept hgr11 (by simp; omega) (by simp))
                  have HO11 := Lib.hid hown11
                  have hcp := HCP.out
                  clear hown11 hgr11 hmx hkn2
                  go_wp2_with fail
                  go_roundw
                  case rel => exact ⟨x + 1, m2 + 1, V3, _, by omega, by go_num, by rw [HS3.out]; go_num, HRG11.out, HO11.out, by rw [HS3.out]; omega, HP3.out, HWN.out, HB11.out⟩
                  case measure => simp [intOf]; omega
              · have F := Lib.hid (HWG.out.no hok)
                have hg10 := belowGrown hb10
                have HRG1 := Lib.hid (HRG.out.kept hg10 (by simp) (by simp))
                have HO1 : Hid (OwnM w10 b2 m2 D2) := Lib.hid (HO2.out.kept hg10 (by simp))
                have HB1 := Lib.hid (HB.out.later hb10)
                clear hok hb10 hg10 HNX
                go_wp2_with fail
                go_roundw
                case rel => exact ⟨x + 1, m2, V, D2, by omega, by go_num, rfl, HRG1.out, HO1.out, hm2, HP2.out, F.out, HB1.out⟩
                case measure => simp [intOf]; omega
            · obtain rfl : x = kn := by omega
              have F := Lib.hid (HROW.out V HWG.out)
              go_wp2_with fail
              go_roundw
              case rel => exact ⟨lf, cnt9, m2, V, D2, rfl, HRG.out, HO2.out, hm2, HP2.out, F.out, HB.out⟩
              case measure => rw [HRG.out.left_eq, HWR.out, HLO.out]; exact hlt9
    · obtain rfl : i = nn := by omega
      have F : Hid (RetSl 3 1 (growL R kn i).length (zVals (growL R kn i)) w (.returned (.slice (some ⟨go, 0, none⟩) (i + 1) co)) wr) := Lib.hid (by
        have h := (HB.out.since HB5.out).ret
        rw [growL_len]; exact h)
      go_wp2_with fail
      go_ret
      exact F.out
end Go.Proofs.YtdhaebbfiaddnaaGreatDoor
