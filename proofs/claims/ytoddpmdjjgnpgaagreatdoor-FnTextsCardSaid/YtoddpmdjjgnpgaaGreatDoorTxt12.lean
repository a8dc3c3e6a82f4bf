/-
  ParseInt of the program.
-/
import Derived.Test.YtoddpmdjjgnpgaaGreatDoorTxt11
import Derived.Test.YtoddpmdjjgnpgaaGreatDoorTxt10
import Derived.Test.YtoddpmdjjgnpgaaGreatDoorTxt08
import Derived.WideShapes
import Derived.Test.YtoddpmdjjgnpgaaGreatDoorTxt04
import Derived.Deep.QuietTactic
import Derived.Test.YtoddpmdjjgnpgaaGreatDoorTxt01
import Derived.Test.YtoddpmdjjgnpgaaGreatDoorTxt02
namespace Go.Proofs.YtoddpmdjjgnpgaaGreatDoor
open Go.RowKit
set_option linter.unusedVariables false
def InK (x : LkZ) : Prop := (-9223372036854775808 ≤ x.1 ∧ x.1 ≤ 9223372036854775807) ∧ (-9223372036854775808 ≤ x.2.1 ∧ x.2.1 ≤ 9223372036854775807)
theorem RngK.mem {L : List LkZ} (h : RngK L) : ∀ x ∈ L, InK x := fun x hx => by
  obtain ⟨j, hj, rfl⟩ := List.getElem_of_mem hx
  have := h j hj
  rw [nthK_lt hj] at this
  exact this
theorem RngK.app {L : List LkZ} (h : RngK L) {x : LkZ} (hx : InK x) : RngK (L ++ [x]) := fun j hj => by
  rw [nthK_lt hj]
  by_cases h' : j < L.length
  · rw [List.getElem_append_left h']
    have := h j h'
    rwa [nthK_lt h'] at this
  · have e : j = L.length := by rw [List.length_append] at hj; simp at hj; omega
    subst e
    rw [List.getElem_append_right (Nat.le_refl _)]
    simpa [InK] using hx
theorem RngK.nil : RngK [] := fun j hj => absurd hj (Nat.not_lt_zero _)
def lkCell (x : LkZ) : List Value := [.int .i64 x.1, .int .i64 x.2.1, .bool x.2.2]
theorem linkCells_app : ∀ (Q : List LkZ) (x : LkZ), linkCells (Q ++ [x]) = linkCells Q ++ lkCell x
  | [], _ => rfl
  | p :: Q, x => by simp only [List.cons_append, linkCells, linkCells_app Q x]
/-- no list of links has this text -/
def NoLk (t : ByteArray) : Prop := ∀ L : List LkZ, 0 < L.length → RngK L → fmtLinks L ≠ t
/-- the answer -/
def AnsK (t : ByteArray) (v : List LkZ) (b : Bool) : Prop := (t = ⟨#[61]⟩ ∧ v = [] ∧ b = true) ∨ (t ≠ ⟨#[61]⟩ ∧ 0 < v.length ∧ RngK v ∧ fmtLinks v = t ∧ b = true) ∨ (t ≠ ⟨#[61]⟩ ∧ NoLk t ∧ v = [] ∧ b = false)
theorem linkB_inj {x y : LkZ} (hx : InK x) (hy : InK y) (h : linkB x = linkB y) : x = y := by
  have h1 := linkB_split x
  rw [h, linkB_split y] at h1
  simp only [List.cons.injEq, and_true] at h1
  have e1 : IsNum (numB x.1) y.1 := ⟨hy.1, h1.1.symm⟩
  have e2 : IsNum (numB x.2.1) y.2.1 := ⟨hy.2, h1.2.symm⟩
  have f1 : IsNum (numB x.1) x.1 := ⟨hx.1, rfl⟩
  have f2 : IsNum (numB x.2.1) x.2.1 := ⟨hx.2, rfl⟩
  have g1 := linkB_head x (linkB_pos x)
  have g2 := linkB_head y (linkB_pos y)
  obtain ⟨a, b, c⟩ := x
  obtain ⟨a', b', c'⟩ := y
  have k1 := f1.uniq e1
  have k2 := f2.uniq e2
  simp only [] at k1 k2 g1 g2
  subst k1; subst k2
  have k3 : c = c' := by
    rw [← g1, ← g2]
    have : ∀ (s s' : ByteArray) (e : s = s') (h : 0 < s.size) (h' : 0 < s'.size), (((s[0]'h).toNat : Int) == 45) = (((s'[0]'h').toNat : Int) == 45) := by
      intro s s' e h h'; subst e; rfl
    exact this _ _ h _ _
  rw [k3]
theorem fmt_inj {L M : List LkZ} (h0 : 0 < L.length) (h1 : 0 < M.length) (hL : RngK L) (hM : RngK M) (h : fmtLinks L = fmtLinks M) : L = M := by
  have e := fmt_split h0
  rw [h, fmt_split h1] at e
  have hl : L.length = M.length := by have := congrArg List.length e; simpa using this.symm
  refine List.ext_getElem hl fun i hi hi' => ?_
  have e2 : (M.map linkB)[i]? = (L.map linkB)[i]? := by rw [e]
  rw [List.getElem?_map, List.getElem?_map, List.getElem?_eq_getElem hi, List.getElem?_eq_getElem hi'] at e2
  simp only [Option.map_some, Option.some.injEq] at e2
  exact (linkB_inj (hM.mem _ (List.getElem_mem _)) (hL.mem _ (List.getElem_mem _)) e2).symm
theorem AnsK.uniq {t : ByteArray} {v v' : List LkZ} {b b' : Bool} (h : AnsK t v b) (h' : AnsK t v' b') : v = v' ∧ b = b' := by
  rcases h with ⟨ht, hv, hb⟩ | ⟨ht, h0, hr, hf, hb⟩ | ⟨ht, hn, hv, hb⟩ <;> rcases h' with ⟨ht', hv', hb'⟩ | ⟨ht', h0', hr', hf', hb'⟩ | ⟨ht', hn', hv', hb'⟩
  · exact ⟨hv.trans hv'.symm, hb.trans hb'.symm⟩
  · exact absurd ht ht'
  · exact absurd ht ht'
  · exact absurd ht' ht
  · exact ⟨fmt_inj h0 h0' hr hr' (hf.trans hf'.symm), hb.trans hb'.symm⟩
  · exact absurd hf (hn' _ h0 hr)
  · exact absurd ht' ht
  · exact absurd hf' (hn _ h0' hr')
  · exact ⟨hv.trans hv'.symm, hb.trans hb'.symm⟩
theorem AnsK.rng {t : ByteArray} {v : List LkZ} {b : Bool} (h : AnsK t v b) : RngK v := by
  rcases h with ⟨_, rfl, _⟩ | ⟨_, _, hr, _, _⟩ | ⟨_, _, rfl, _⟩
  · exact RngK.nil
  · exact hr
  · exact RngK.nil
/-- what a part must be, read to a link -/
structure PartG (G : ByteArray → LkZ → Prop) : Prop where
  link : ∀ y x, InK y → G (linkB y) x → x = y
theorem map_nth {L : List LkZ} {P : List ByteArray} (h : P = L.map linkB) {k : Nat} (hk : k < L.length) : nthS P k = linkB (nthK L k) := by
  subst h
  rw [nthS_lt (by simpa using hk), nthK_lt hk, List.getElem_map]
theorem ans_all {G : ByteArray → LkZ → Prop} (hG : PartG G) {t : ByteArray} (ht : t ≠ ⟨#[61]⟩) {Q : List LkZ} (hl : Q.length = (splitB t 32).length) (hr : RngK Q) (hq : ∀ k, k < (splitB t 32).length → G (nthS (splitB t 32) k) (nthK Q k)) (h0 : 0 < (splitB t 32).length) :
    (fmtLinks Q = t → AnsK t Q true) ∧ (fmtLinks Q ≠ t → AnsK t [] false) := by
  refine ⟨fun h => .inr (.inl ⟨ht, by omega, hr, h, rfl⟩), fun h => .inr (.inr ⟨ht, fun L hL0 hLr hLf => h ?_, rfl, rfl⟩)⟩
  have e : splitB t 32 = L.map linkB := by rw [← hLf]; exact fmt_split hL0
  have hll : Q.length = L.length := by rw [hl, e]; simp
  have : Q = L := List.ext_getElem hll fun i hi hi' => by
    have h1 := hq i (by rw [← hl]; exact hi)
    rw [map_nth e hi'] at h1
    have h2 := hG.link _ _ (hLr i hi') h1
    rw [nthK_lt hi, nthK_lt hi'] at h2
    exact h2
  rw [this]; exact hLf
theorem no_part {t : ByteArray} {k : Nat} (hk : k < (splitB t 32).length) (h : ∀ x, InK x → nthS (splitB t 32) k ≠ linkB x) : NoLk t := fun L hL0 hLr hLf => by
  have e : splitB t 32 = L.map linkB := by rw [← hLf]; exact fmt_split hL0
  have hkl : k < L.length := by rw [e] at hk; simpa using hk
  exact h _ (hLr k hkl) (map_nth e hkl)
theorem split_pos (s : ByteArray) (c : UInt8) : 0 < (splitB s c).length := by unfold splitB; simp
/-- the number of a text, 0 where it is none -/
def VN (s : ByteArray) (n : Int) : Prop := IsNum s n ∨ ((∀ m, ¬ IsNum s m) ∧ n = 0)
theorem VN.num {n m : Int} (hn : -9223372036854775808 ≤ n ∧ n ≤ 9223372036854775807) (h : VN (numB n) m) : m = n := by
  rcases h with h | ⟨h, _⟩
  · exact h.uniq ⟨hn, rfl⟩
  · exact absurd ⟨hn, rfl⟩ (h n)
theorem VN.rng {s : ByteArray} {n : Int} (h : VN s n) : -9223372036854775808 ≤ n ∧ n ≤ 9223372036854775807 := by
  rcases h with h | ⟨_, rfl⟩
  · exact h.1
  · omega
/-- a part, by the program -/
def GoodQ (s : ByteArray) (x : LkZ) : Prop := ∃ (h : 0 < s.size), VN (cutB (s.extract 1 s.size) 64).1 x.1 ∧ VN (cutB (s.extract 1 s.size) 64).2.1 x.2.1 ∧ ((((s[0]'h).toNat : Nat) : Int) == 45) = x.2.2
theorem goodQ : PartG GoodQ where
  link := fun y x hy ⟨h, ha, hb, hs⟩ => by
    rw [(linkB_cut y).1] at ha
    rw [(linkB_cut y).2] at hb
    rw [linkB_head] at hs
    have e1 := ha.num hy.1
    have e2 := hb.num hy.2
    obtain ⟨x1, x2, x3⟩ := x
    obtain ⟨y1, y2, y3⟩ := y
    simp only [] at e1 e2 hs
    rw [e1, e2, hs]
/-- what ParseLinks hands back -/
def RetPK (t : ByteArray) (w : World) (e : Ending) (w' : World) : Prop := ∃ L b a c, AnsK t L b ∧ e = .returned (.tuple #[.slice a L.length c, .bool b]) ∧ w'.ownsRow w.heap.size 114 3 (.slice a L.length c) L.length (linkCells L) ∧ Below w.heap.size w w' ∧ L.length ≤ t.size + 1
theorem fmt_len {L : List LkZ} (h : 0 < L.length) : L.length ≤ (fmtLinks L).size + 1 := by
  have e := congrArg List.length (fmt_split h)
  rw [List.length_map] at e
  have h1 := (spT_le (fmtLinks L) 32 (fmtLinks L).size).2
  unfold splitB at e
  rw [List.length_append] at e
  simp at e
  omega
theorem AnsK.len {t : ByteArray} {v : List LkZ} {b : Bool} (h : AnsK t v b) : v.length ≤ t.size + 1 := by
  rcases h with ⟨_, rfl, _⟩ | ⟨_, h0, hr, hf, _⟩ | ⟨_, _, rfl, _⟩
  · simp
  · rw [← hf]; exact fmt_len h0
  · simp
end Go.Proofs.YtoddpmdjjgnpgaaGreatDoor
namespace Go.Proofs.YtoddpmdjjgnpgaaGreatDoor
open Go.RowKit
set_option linter.unusedVariables false
/-- a side's text, read -/
def undot (s : ByteArray) : ByteArray := if (s.data.toList == [46]) = true then ⟨#[]⟩ else s
theorem undot_yes {s : ByteArray} (h : (s.toList == [46]) = true) : undot s = ⟨#[]⟩ := by
  rw [Lib.toList_data] at h
  exact if_pos h
theorem undot_no {s : ByteArray} (h : (s.toList == [46]) = false) : undot s = s := by
  rw [Lib.toList_data] at h
  exact if_neg (by rw [h]; exact Bool.noConfusion)
/-- a rule's text and the rule -/
structure RuleTx (s : ByteArray) (u v : ByteArray) : Prop where
  size : s.size ≤ 2 ^ 20
  small : u.size ≤ s.size ∧ v.size ≤ s.size
  split : splitB s 62 = [u, v]
  w1 : wordOkB 4 (undot u) = true
  w2 : wordOkB 4 (undot v) = true
  text : (ruleT (undot u, undot v)).toList = s.toList
/-- two strings in a row of their own -/
def TwoX (B : Nat) (w wr : World) (v : Value) (x y : ByteArray) : Prop := wr.ownsRow (B + 1) 9 1 v 2 [.string x, .string y] ∧ Below B w wr ∧ wr.heap[B]? = some (.cells #[.string ⟨#[]⟩, .string ⟨#[]⟩] 120 (0, 0))
theorem TwoX.form {B : Nat} {w wr : World} {a : Option Addr} {n cap : Nat} {x y : ByteArray} (h : TwoX B w wr (.slice a n cap) x y) : ∃ g, a = some ⟨g, 0, none⟩ ∧ B + 1 ≤ g ∧ n = 2 := by
  obtain ⟨ho, hb, h0⟩ := h
  rcases ho.2 with ⟨hv, h0⟩ | ⟨g, cap', cur, hv, hb', r⟩
  · cases h0
  · simp only [Value.slice.injEq] at hv
    exact ⟨g, hv.1, hb', hv.2.1⟩
theorem TwoX.blk {B : Nat} {wr : World} {g : Nat} {o : Nat} {z : Value} {O : Option Obj} (h0 : wr.heap[B]? = O) (hg : B + 1 ≤ g) : (wr.setCell ⟨g, o, none⟩ z).heap[B]? = O := by
  rw [← h0]
  unfold World.setCell
  rw [Array.getElem?_modify, if_neg (by show ¬ g = B; omega)]
end Go.Proofs.YtoddpmdjjgnpgaaGreatDoor
namespace Go.Proofs.YtoddpmdjjgnpgaaGreatDoor
open Go.RowKit
set_option linter.unusedVariables false
end Go.Proofs.YtoddpmdjjgnpgaaGreatDoor
namespace Go.Proofs.YtoddpmdjjgnpgaaGreatDoor
open Go.RowKit Go.ChangeShapes Go.WideShapes Go.ChangeAt Go.Joins Go.Deep
set_option linter.unusedVariables false
theorem Tryz.infoLink : (Tryz.prog.info? 114).map (fun i => (i.zero, i.size, i.bytes)) = some (some (.agg #[.int .i64 0, .int .i64 0, .bool false]), 3, 24) := by kernel_rfl
end Go.Proofs.YtoddpmdjjgnpgaaGreatDoor
namespace Go.Proofs.YtoddpmdjjgnpgaaGreatDoor
open Go.RowKit
set_option linter.unusedVariables false
theorem rows_neL {w : World} {base base' size size' n m : Nat} {T T' : TypeId} {v u : Value} {xs ys : List Value} (h : w.ownsRow base T size v n xs) (h' : w.ownsRow base' T' size' u m ys) (hT : T ≠ T') : ∀ k, v.ownBlock = some k → u.ownBlock ≠ some k := fun k hk e => by
  rcases h.2 with ⟨rfl, _⟩ | ⟨g, cap, cur, rfl, _, hgb, _⟩
  · simp [Value.ownBlock] at hk
  · rcases h'.2 with ⟨rfl, _⟩ | ⟨g', cap', cur', rfl, _, hgb', _⟩
    · simp [Value.ownBlock] at e
    · obtain rfl : g = k := by simpa [Value.ownBlock] using hk
      obtain rfl : g' = g := by simpa [Value.ownBlock] using e
      rw [hgb] at hgb'
      simp only [Option.some.injEq, Obj.cells.injEq] at hgb'
      exact hT hgb'.2.1
theorem bld_keptL {T : TypeId} {size : Nat} {w wr wr' : World} {v : Value} {n : Nat} {xs : List Value} {own : Option Nat} (h : Bld T size w wr v n xs) (hg : wr.grownBy wr' own) (hne : ∀ k, v.ownBlock = some k → own ≠ some k) (ho : ∀ k, own = some k → w.heap.size ≤ k) : Bld T size w wr' v n xs := by
  refine ⟨h.1.kept hg ?_, h.2.grown hg h.2.size ho⟩
  cases hv : v.ownBlock with
  | none => exact .inl rfl
  | some k => exact .inr fun e => hne k hv (e.symm ▸ rfl)
theorem tail_size {s : ByteArray} {n : Nat} (h : s.size ≤ n) : (s.extract 1 s.size).size ≤ n := by
  rw [ByteArray.size_extract]
  exact Nat.le_trans (Nat.sub_le _ _) (Nat.le_trans (Nat.min_le_left _ _) h)
/-- the parts' row, and the links so far -/
structure PkS (w wr : World) (P : List ByteArray) (vP : Value) (Q : List LkZ) (vQ : Value) : Prop where
  parts : Bld 9 1 w wr vP P.length (strVals P)
  links : Bld 114 3 w wr vQ Q.length (linkCells Q)
theorem PkS.later {w wr wr' : World} {P : List ByteArray} {Q : List LkZ} {vP vQ : Value} (h : PkS w wr P vP Q vQ) (hb : Below wr.heap.size wr wr') : PkS w wr' P vP Q vQ := ⟨h.parts.later hb, h.links.later hb⟩
theorem PkS.put {w wr w' : World} {P : List ByteArray} {Q : List LkZ} {vP vQ v' : Value} {x : LkZ} {cs : Array Value} {T : TypeId} (h : PkS w wr P vP Q vQ) (hb : Bld 114 3 w w' v' (Q.length + 1) (linkCells Q ++ lkCell x)) (hg : (wr.alloc (.cells cs T)).grownBy w' vQ.ownBlock) : PkS w w' P vP (Q ++ [x]) v' := by
  have h1 := h.later (alloc_belowS wr (.cells cs T))
  refine ⟨bld_keptL h1.parts hg (fun k hk e => rows_neL h1.parts.1 h1.links.1 (by decide) k hk e) (fun k hk => (h1.links.1.lt k hk).1), ?_⟩
  rw [linkCells_app, List.length_append]; exact hb
theorem retK {t : ByteArray} {w wr : World} {L : List LkZ} {b : Bool} {a : Option Addr} {c : Nat} (h : AnsK t L b) (hb : Bld 114 3 w wr (.slice a L.length c) L.length (linkCells L)) : RetPK t w (.returned (.tuple #[.slice a L.length c, .bool b])) wr := ⟨L, b, a, c, h, rfl, hb.1, hb.2, h.len⟩
end Go.Proofs.YtoddpmdjjgnpgaaGreatDoor

namespace Go.Proofs.YtoddpmdjjgnpgaaGreatDoor
open Go.RowKit
set_option linter.unusedVariables false
/-- the variables of the library that a parse wants: the table of powers, the two errors -/
def TabE (w : World) : Prop := Tab10 w ∧ (∃ t p, w.cell? ⟨1, 0, none⟩ = some (.iface t p)) ∧ ∃ t p, w.cell? ⟨2, 0, none⟩ = some (.iface t p)
theorem TabE.later {w w' : World} (h : TabE w) (hb : Below w.heap.size w w') : TabE w' := by
  obtain ⟨h1, ⟨t, p, h2⟩, ⟨t', p', h3⟩⟩ := h
  exact ⟨h1.later hb, ⟨t, p, (hb.cell (World.block_lt_of_cell? _ _ h2)).trans h2⟩, t', p', (hb.cell (World.block_lt_of_cell? _ _ h3)).trans h3⟩
theorem numEnd_cases (e : Lib.NumEnd Int) : (∃ v, e = .ok v) ∨ e = Lib.NumEnd.syntax ∨ e = .range := by
  cases e <;> simp
theorem bytesW_below {w w' : World} {T : TypeId} (h : w' = w ∨ ∃ t, w' = Lib.bytesWorld w T t) : Below w.heap.size w w' := by
  rcases h with rfl | ⟨t, rfl⟩
  · exact Below.refl _ _
  · exact Lib.bytesWorld_below _ _ _
set_option maxRecDepth 20000 in
set_option maxHeartbeats 1000000 in
theorem implParseInt_x (s : ByteArray) (w : World) (hs : s.size ≤ 281474976710656) (ht : TabE w) :
    Calls Tryz.prog 69 #[.string s] w (RetPI s w) := by
  rcases numEnd_cases (Lib.atoiAll s.data.toList) with ⟨v, ha⟩ | ha | ha
  · obtain ⟨hv0, hv1⟩ := Lib.atoiAll_bounds ha
    have HC := Lib.hid (Tryz.strconv_Atoi_ok s (by omega) v ha w)
    have HF := Lib.hid (fun W h => implFormatInt_any v W hv0 hv1 h)
    have HT := Lib.hid ht.1
    clear ht
    cases hq : ((numB v).toList == s.toList)
    · have HN : Hid (∀ m, ¬ IsNum s m) := Lib.hid (fun m h => by
        have e := ha.symm.trans h.ok
        injection e with e
        subst e
        rw [h.2] at hq
        simp at hq)
      clear ha
      go_enter Tryz.func69, Tryz.ntmps69
      go_wp2_with fail
      refine HC.out.mono ?_
      rintro e w2 ⟨rfl, hw2⟩
      have hb2 := bytesW_below hw2
      have HT2 := Lib.hid (HT.out.later hb2)
      clear hw2
      have HB2 := Lib.hid hb2
      clear hb2
      go_wp2_with fail
      refine (HF.out _ HT2.out).mono ?_
      rintro e w3 ⟨rfl, hb3⟩
      have HB3 := Lib.hid (Below.now HB2.out hb3)
      clear hb3
      go_wp2_with fail
      refine bodyPost_ret (v := .tuple #[.int .i64 0, .bool false]) ?_ rfl (RetPI.no HN.out HB3.out)
      simp [results, Tryz.results69, go_sem]
    · have HN : Hid (IsNum s v) := Lib.hid ⟨⟨hv0, hv1⟩, by
        have h := eq_of_beq hq
        rw [Lib.toList_data, Lib.toList_data] at h
        exact (Go.WideShapes.bytes_inj h).symm⟩
      clear ha
      go_enter Tryz.func69, Tryz.ntmps69
      go_wp2_with fail
      refine HC.out.mono ?_
      rintro e w2 ⟨rfl, hw2⟩
      have hb2 := bytesW_below hw2
      have HT2 := Lib.hid (HT.out.later hb2)
      clear hw2
      have HB2 := Lib.hid hb2
      clear hb2
      go_wp2_with fail
      refine (HF.out _ HT2.out).mono ?_
      rintro e w3 ⟨rfl, hb3⟩
      have HB3 := Lib.hid (Below.now HB2.out hb3)
      clear hb3
      go_wp2_with fail
      refine bodyPost_ret (v := .tuple #[.int .i64 v, .bool true]) ?_ rfl (RetPI.yes HN.out HB3.out)
      simp [results, Tryz.results69, go_sem]
  · obtain ⟨_, ⟨t, p, h2⟩, _⟩ := ht
    have HC := Lib.hid (Tryz.strconv_Atoi_syntax s hs ha (.iface t p) w h2 (.inr ⟨t, p, rfl⟩))
    have HN : Hid (∀ m, ¬ IsNum s m) := Lib.hid (fun m h => by have e := ha.symm.trans h.ok; cases e)
    clear ha h2
    go_enter Tryz.func69, Tryz.ntmps69
    go_wp2_with fail
    refine HC.out.mono ?_
    rintro e w2 ⟨N, rfl, _, _, hb2⟩
    have HB2 := Lib.hid hb2
    clear hb2
    go_wp2_with fail
    refine bodyPost_ret (v := .tuple #[.int .i64 0, .bool false]) ?_ rfl (RetPI.no HN.out HB2.out)
    simp [results, Tryz.results69, go_sem]
  · obtain ⟨_, _, ⟨t, p, h2⟩⟩ := ht
    have HC := Lib.hid (Tryz.strconv_Atoi_range s hs ha (.iface t p) w h2 (.inr ⟨t, p, rfl⟩))
    have HN : Hid (∀ m, ¬ IsNum s m) := Lib.hid (fun m h => by have e := ha.symm.trans h.ok; cases e)
    obtain ⟨sat, hsat⟩ : ∃ x, Lib.atoiSat s.data.toList = x := ⟨_, rfl⟩
    rw [hsat] at HC
    clear ha h2 hsat
    go_enter Tryz.func69, Tryz.ntmps69
    go_wp2_with fail
    refine HC.out.mono ?_
    rintro e w2 ⟨N, rfl, _, _, hb2⟩
    have HB2 := Lib.hid hb2
    clear hb2
    go_wp2_with fail
    refine bodyPost_ret (v := .tuple #[.int .i64 0, .bool false]) ?_ rfl (RetPI.no HN.out HB2.out)
    simp [results, Tryz.results69, go_sem]
end Go.Proofs.YtoddpmdjjgnpgaaGreatDoor
