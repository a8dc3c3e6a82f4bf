/-
  The reference's IsDigits and ParseInt, coarsely.
-/
import Derived.Test.YtklbehapbchnaaaDoorPrl05
import Derived.Test.YtklbehapbchnaaaDoorPrl02
import Derived.Deep.QuietTactic
import Derived.BigQuiet
import Derived.RangeFuncNested
import Derived.RangeFuncBound
import Derived.RangeFuncCalls
import Derived.RangeFuncLeaves
import Derived.Shelf.Abstract
import Derived.Shelf.RegionOpen
import Derived.WalkKit
import Derived.OwnWalkIn
import Derived.TacticsInMore
import Derived.LoopNIn
import Derived.LoopIn
import Derived.Test.YtklbehapbchnaaaDoorPrl04
import Derived.Deep.DeepCutAuto
namespace Go.Proofs.YtklbehapbchnaaaDoor
open Go.RowKit
set_option linter.unusedVariables false
theorem cutB_no {s : ByteArray} {c : UInt8} (h : Lib.indexByte s.data.toList c = -1) : cutB s c = (s, ⟨#[]⟩, false) := by
  unfold cutB; rw [if_pos (by omega)]
theorem cutB_yes {s : ByteArray} {c : UInt8} {i : Nat} (h : Lib.indexByte s.data.toList c = (i : Int)) : cutB s c = (s.extract 0 i, s.extract (i + 1) s.size, true) := by
  unfold cutB; rw [if_neg (by omega), h, Int.toNat_natCast]
def RetC1 (s : ByteArray) (c : UInt8) (w : World) : Prop := Calls Tryd.prog 35 #[.string s, .string ⟨#[c]⟩] w fun e w' => e = .returned (.tuple #[.string (cutB s c).1, .string (cutB s c).2.1, .bool (cutB s c).2.2]) ∧ Below w.heap.size w w'
theorem RetC1.outer {s : ByteArray} {c : UInt8} {w : World} (h : RetC1 s c w) : Calls Tryd.prog 19 #[.string s, .string ⟨#[c]⟩] w fun e w' => e = .returned (.tuple #[.string (cutB s c).1, .string (cutB s c).2.1, .bool (cutB s c).2.2]) ∧ Below w.heap.size w w' := by
  unfold RetC1 at h
  have H := Lib.hid h
  clear h
  generalize (cutB s c).1 = x at *
  generalize (cutB s c).2.1 = y at *
  generalize (cutB s c).2.2 = z at *
  go_enter Tryd.func19, Tryd.ntmps19
  go_wp2_with fail
  refine H.out.mono ?_
  rintro e w2 ⟨rfl, hb⟩
  have HB := Lib.hid hb
  clear hb
  go_wp2_with fail
  refine bodyPost_ret (v := .tuple #[.string x, .string y, .bool z]) ?_ rfl ⟨rfl, HB.out⟩
  simp [results, Tryd.results19, go_sem]
set_option maxRecDepth 20000 in
set_option maxHeartbeats 2000000 in
theorem cutI_any (s : ByteArray) (c : UInt8) (w : World) (hs : s.size ≤ maxLen) :
    Calls Tryd.prog 19 #[.string s, .string ⟨#[c]⟩] w fun e w' => e = .returned (.tuple #[.string (cutB s c).1, .string (cutB s c).2.1, .bool (cutB s c).2.2]) ∧ Below w.heap.size w w' := by
  have HI := Lib.hid (fun W => Tryd.stringslite_Index_one s c W)
  have hz1 : (⟨#[c]⟩ : ByteArray).size = 1 := rfl
  unfold maxLen at hs
  rcases index_cases s.data.toList c with ⟨h1, h2⟩ | ⟨i, h1, h2, h3, h4⟩
  · have HC := Lib.hid (cutB_no h1)
    rw [h1] at HI
    have HC1 : Hid (RetC1 s c w) := Lib.hid (by
      unfold RetC1
      rw [HC.out]
      clear h1 h2
      go_enter Tryd.func35, Tryd.ntmps35
      go_wp2_with fail
      refine (HI.out _).mono ?_
      rintro e w2 ⟨rfl, rfl⟩
      go_wp2_with fail
      refine bodyPost_ret (v := .tuple #[.string s, .string ⟨#[]⟩, .bool false]) ?_ rfl ⟨rfl, Below.refl _ _⟩
      simp [results, Tryd.results35, go_sem])
    exact HC1.out.outer
  · have HC := Lib.hid (cutB_yes h1)
    rw [h1] at HI
    have hil : i < s.size := by simpa using h2
    have HC1 : Hid (RetC1 s c w) := Lib.hid (by
      unfold RetC1
      rw [HC.out]
      clear h1 h2 h3 h4
      have hi0 : (0 : Int) ≤ (i : Int) := by omega
      have hi1 : (i : Int) ≤ (s.size : Int) := by omega
      have hi2 : (i : Int) + 1 ≤ (s.size : Int) := by omega
      have HB := Lib.hid (fun n => below_drewN (Below.refl w.heap.size w) n)
      go_enter Tryd.func35, Tryd.ntmps35
      go_wp2_with fail
      refine (HI.out _).mono ?_
      rintro e w2 ⟨rfl, rfl⟩
      go_wp2_with fail
      go_quiet (fail)
      go_wp2_with fail
      refine bodyPost_ret (v := .tuple #[.string (s.extract 0 i), .string (s.extract (i + 1) s.size), .bool true]) ?_ rfl ⟨rfl, HB.out _⟩
      simp [results, Tryd.results35, go_sem])
    exact HC1.out.outer
end Go.Proofs.YtklbehapbchnaaaDoor
namespace Go.Proofs.YtklbehapbchnaaaDoor
open Go.RowKit Go.Shelf
set_option linter.unusedVariables false
attribute [local go_sem] Oper.semAt_some
/-- the three captured boxes: the separator, the rest of the text, the number of bytes kept -/
structure SeqBox (W : World) (Bp Bs Bv : Nat) (c : UInt8) (r : ByteArray) : Prop where
  sep : W.heap[Bp]? = some (.cells #[.string ⟨#[c]⟩] 9 (0, 0))
  rest : W.heap[Bs]? = some (.cells #[.string r] 9 (0, 0))
  save : W.heap[Bv]? = some (.cells #[.int .i64 0] 3 (0, 0))
/-- a round keeps them -/
def KpS (Bp Bs Bv : Nat) (W W' : World) : Prop := W'.heap[Bp]? = W.heap[Bp]? ∧ W'.heap[Bs]? = W.heap[Bs]? ∧ W'.heap[Bv]? = W.heap[Bv]?
theorem KpS.refl (Bp Bs Bv : Nat) (W : World) : KpS Bp Bs Bv W W := ⟨rfl, rfl, rfl⟩
theorem KpS.trans {Bp Bs Bv : Nat} {A B C : World} (h : KpS Bp Bs Bv A B) (k : KpS Bp Bs Bv B C) : KpS Bp Bs Bv A C := ⟨k.1.trans h.1, k.2.1.trans h.2.1, k.2.2.trans h.2.2⟩
theorem KpS.grown {Bp Bs Bv : Nat} {A B : World} {row : Option Nat} (hg : A.grownBy B row) (h1 : Bp < A.heap.size) (h2 : Bs < A.heap.size) (h3 : Bv < A.heap.size) (hr : ∀ k, row = some k → k ≠ Bp ∧ k ≠ Bs ∧ k ≠ Bv) : KpS Bp Bs Bv A B :=
  ⟨hg.block _ h1 (fun e => (hr _ e.symm).1 rfl), hg.block _ h2 (fun e => (hr _ e.symm).2.1 rfl), hg.block _ h3 (fun e => (hr _ e.symm).2.2 rfl)⟩
theorem SeqBox.kept {W W' : World} {Bp Bs Bv : Nat} {c : UInt8} {r : ByteArray} (h : SeqBox W Bp Bs Bv c r) (hk : KpS Bp Bs Bv W W') : SeqBox W' Bp Bs Bv c r := ⟨hk.1.trans h.sep, hk.2.1.trans h.rest, hk.2.2.trans h.save⟩
theorem SeqBox.set {W : World} {Bp Bs Bv : Nat} {c : UInt8} {r : ByteArray} (h : SeqBox W Bp Bs Bv c r) (h1 : Bp ≠ Bs) (h2 : Bv ≠ Bs) (x : ByteArray) : SeqBox (W.setCell ⟨Bs, 0, none⟩ (.string x)) Bp Bs Bv c x :=
  ⟨(Below.heap_setCell W ⟨Bs, 0, none⟩ _ _ h1).trans h.sep, Boxed.set (t := 9) (.string x) h.rest, (Below.heap_setCell W ⟨Bs, 0, none⟩ _ _ h2).trans h.save⟩
/-- how many bytes are left -/
def leftS (Bs : Nat) (W : World) : Nat := match W.cell? ⟨Bs, 0, none⟩ with
  | some (.string s) => s.size
  | _ => 0
theorem leftS_eq {Bs : Nat} {W : World} {s : ByteArray} (h : W.cell? ⟨Bs, 0, none⟩ = some (.string s)) : leftS Bs W = s.size := by
  unfold leftS; rw [h]
set_option maxRecDepth 100000 in
set_option maxHeartbeats 2000000 in
theorem splitSeq1_in (n l Bp Bs Bv : Nat) (c : UInt8) (s0 : ByteArray) (hs0 : s0.size ≤ 2 ^ 40) (hps : Bp ≠ Bs) (hvs : Bv ≠ Bs) (J Jx : List ByteArray → World → Prop)
    (hJs : ∀ pre W v, J pre W → J pre (W.setCell ⟨Bs, 0, none⟩ v))
    (hY : ∀ pre x W, J pre W → x.size ≤ 2 ^ 40 → (∃ post, splitB s0 c = pre ++ x :: post) → YieldAt Fence.wide (n - 1) Tryd.prog l #[.string x] W fun e W' =>
      (e = .returned (.bool true) ∧ J (pre ++ [x]) W' ∧ KpS Bp Bs Bv W W') ∨ (e = .returned (.bool false) ∧ Jx (pre ++ [x]) W'))
    (W : World) (hB : SeqBox W Bp Bs Bv c s0) (h0 : J [] W) :
    CallsIn Fence.wide n Tryd.prog 55 #[.func (.yield l) #[] #[], .pointer (some ⟨Bp, 0, none⟩), .pointer (some ⟨Bs, 0, none⟩), .pointer (some ⟨Bv, 0, none⟩)] W fun e W' => (∃ v, e = .returned v) ∧
      (J (splitB s0 c) W' ∨ ∃ pre, (∃ post, splitB s0 c = pre ++ post) ∧ Jx pre W') := by
  refine callsIn_of_wp Tryd.func55 rfl trivial ?_ rfl
  simp only [Tryd.ntmps55, List.size_toArray, List.length_cons, List.length_nil, Nat.reduceAdd, Nat.reduceSub, Array.replicate_succ, Array.replicate_zero, List.push_toArray, List.append_toArray, List.nil_append, List.cons_append]
  have hz1 : (⟨#[c]⟩ : ByteArray).size = 1 := rfl
  have p0 := Boxed.cell (t := 9) hB.sep
  have HB := Lib.hid hB
  have HJs := Lib.hid hJs
  have HY := Lib.hid hY
  have H0 := Lib.hid h0
  clear hB hJs hY h0
  gi_wp2
  gi_loopw [7] (fun _ wr => ∃ (pre : List ByteArray) (r : ByteArray), r.size ≤ 2 ^ 40 ∧ Hid (splitB s0 c = pre ++ splitB r c) ∧ Hid (SeqBox wr Bp Bs Bv c r) ∧ Hid (J pre wr)) (fun _ wr => leftS Bs wr)
  case atStart => exact ⟨[], s0, hs0, Lib.hid rfl, HB, H0⟩
  case round =>
    clear p0
    obtain ⟨pre, r, hr, HP, HS, HJ⟩ := hrel
    have p0 := Boxed.cell (t := 9) HS.out.sep
    have p1 := Boxed.cell (t := 9) HS.out.rest
    have p2 := Boxed.cell (t := 3) HS.out.save
    have HI := Lib.hid (Tryd.strings_Index_one r c wr)
    rcases split_next r c with ⟨h1, h2⟩ | ⟨i, h1, h2, h3⟩
    · rw [h1] at HI
      have HL := Lib.hid (show leftS Bs wr = r.size from leftS_eq p1)
      have HD : Hid (splitB s0 c = pre ++ [r]) := Lib.hid (by rw [HP.out, h2])
      obtain ⟨fn, tmps, assign, body, hy, hR⟩ := HY.out pre r wr HJ.out hr ⟨[], HD.out⟩
      have HR := Lib.hid hR
      clear h1 h2 hR
      gi_wp2
      refine ⟨trivial, fun h => Bool.noConfusion h, (callsIn_wide.2 HI.out).mono ?_⟩
      rintro e w' ⟨rfl, hww⟩
      replace hww := hww.symm
      subst hww
      gi_wp2
      refine ⟨fun h => Bool.noConfusion h, HR.out.mono ?_⟩
      rintro e W3 (⟨rfl, hJ3, hk3⟩ | ⟨rfl, hJx3⟩)
      · gi_wp2
        go_end0
        exact ⟨⟨_, rfl⟩, .inl (by rw [HD.out]; exact hJ3)⟩
      · gi_wp2
        go_end0
        exact ⟨⟨_, rfl⟩, .inr ⟨_, ⟨[], by rw [HD.out, List.append_nil]⟩, hJx3⟩⟩
    · rw [h1] at HI
      have hei : (r.extract 0 i).size ≤ 2 ^ 40 := by rw [ByteArray.size_extract]; omega
      have HD : Hid (splitB s0 c = pre ++ r.extract 0 i :: splitB (r.extract (i + 1) r.size) c) := Lib.hid (by rw [HP.out, h3])
      obtain ⟨fn, tmps, assign, body, hy, hR⟩ := HY.out pre (r.extract 0 i) wr HJ.out hei ⟨_, HD.out⟩
      have HR := Lib.hid hR
      have hi0 : ¬ (i : Int) < 0 := by omega
      have hi1 : (i : Int) ≤ (r.size : Int) := by omega
      have hi2 : (i : Int) + 1 ≤ (r.size : Int) := by omega
      have HI2 := Lib.hid h2
      clear h1 h3 hR
      gi_wp2
      refine ⟨trivial, fun h => Bool.noConfusion h, (callsIn_wide.2 HI.out).mono ?_⟩
      rintro e w' ⟨rfl, hww⟩
      replace hww := hww.symm
      subst hww
      gi_wp2
      refine ⟨fun h => Bool.noConfusion h, HR.out.mono ?_⟩
      rintro e W3 (⟨rfl, hJ3, hk3⟩ | ⟨rfl, hJx3⟩)
      · have HS3 := Lib.hid (HS.out.kept hk3)
        have q0 := Boxed.cell (t := 9) HS3.out.sep
        have q1 := Boxed.cell (t := 9) HS3.out.rest
        have q1f := Boxed.frozen (t := 9) HS3.out.rest
        have HS4 := Lib.hid (HS3.out.set hps hvs (r.extract (i + 1) r.size))
        have HJ4 := Lib.hid (HJs.out _ _ (.string (r.extract (i + 1) r.size)) hJ3)
        have HM : Hid (leftS Bs (W3.setCell ⟨Bs, 0, none⟩ (.string (r.extract (i + 1) r.size))) < leftS Bs wr) := Lib.hid (by
          rw [leftS_eq (Boxed.cell (t := 9) HS4.out.rest), leftS_eq p1, ByteArray.size_extract]
          have := HI2.out; omega)
        have hle : (r.extract (i + 1) r.size).size ≤ 2 ^ 40 := by rw [ByteArray.size_extract]; omega
        clear hk3 hJ3
        gi_wp2
        go_roundw
        case rel => exact ⟨pre ++ [r.extract 0 i], r.extract (i + 1) r.size, hle, Lib.hid (by rw [HD.out, List.append_assoc]; rfl), HS4, HJ4⟩
        case measure => exact HM.out
      · gi_wp2
        refine bodyPost_ret (results_none rfl _ _ _) rfl ?_
        exact ⟨⟨_, rfl⟩, .inr ⟨_, ⟨_, by rw [HD.out, List.append_assoc]; rfl⟩, hJx3⟩⟩
end Go.Proofs.YtklbehapbchnaaaDoor
namespace Go.Proofs.YtklbehapbchnaaaDoor
open Go.RowKit Go.Shelf
set_option linter.unusedVariables false
/-- what a round keeps: the three captured boxes, and the two blocks of the loop -/
def Kp5 (Bp Bs Bv D : Nat) (W W' : World) : Prop := KpS Bp Bs Bv W W' ∧ W'.heap[D]? = W.heap[D]? ∧ W'.heap[D + 1]? = W.heap[D + 1]?
theorem Kp5.refl (Bp Bs Bv D : Nat) (W : World) : Kp5 Bp Bs Bv D W W := ⟨KpS.refl _ _ _ _, rfl, rfl⟩
theorem Kp5.trans {Bp Bs Bv D : Nat} {A B C : World} (h : Kp5 Bp Bs Bv D A B) (k : Kp5 Bp Bs Bv D B C) : Kp5 Bp Bs Bv D A C := ⟨h.1.trans k.1, k.2.1.trans h.2.1, k.2.2.trans h.2.2⟩
theorem Kp5.grown {Bp Bs Bv D : Nat} {A B : World} {row : Option Nat} (hg : A.grownBy B row) (h1 : Bp < A.heap.size) (h2 : Bs < A.heap.size) (h3 : Bv < A.heap.size) (h4 : D + 1 < A.heap.size) (hr : ∀ k, row = some k → k ≠ Bp ∧ k ≠ Bs ∧ k ≠ Bv ∧ k ≠ D ∧ k ≠ D + 1) : Kp5 Bp Bs Bv D A B :=
  ⟨KpS.grown hg h1 h2 h3 (fun k e => ⟨(hr k e).1, (hr k e).2.1, (hr k e).2.2.1⟩), hg.block _ (by omega) (fun e => (hr _ e.symm).2.2.2.1 rfl), hg.block _ h4 (fun e => (hr _ e.symm).2.2.2.2 rfl)⟩
/-- how a round may be left -/
def seqPost (Bp Bs Bv D : Nat) (I Ix : List ByteArray → World → Prop) (xs : List ByteArray) (W : World) : Exit → Act → World → Prop
  | .normal, _, W' => Kp5 Bp Bs Bv D W W' ∧ I xs W'
  | .ret, _, W' => Kp5 Bp Bs Bv D W W' ∧ Ix xs W'
  | _, _, _ => False
theorem putObj_kpS {Bp Bs Bv : Nat} {W : World} {l : Nat} {o : Obj} (h1 : Bp ≠ l) (h2 : Bs ≠ l) (h3 : Bv ≠ l) : KpS Bp Bs Bv W (W.putObj l o) := ⟨World.putObj_heap_other h1, World.putObj_heap_other h2, World.putObj_heap_other h3⟩
theorem wpIn_rangeSeq {g : Operand} {ps : Array Tmp} {assign body : Code} {Q : Exit → Act → World → Prop} {a : Act} {w : World} {n Bp Bs Bv : Nat} {c : UInt8} {s0 : ByteArray}
    (hg : a.eval g = .func (.func 55) #[] #[.pointer (some ⟨Bp, 0, none⟩), .pointer (some ⟨Bs, 0, none⟩), .pointer (some ⟨Bv, 0, none⟩)]) (hps : ps.size = 1)
    (hs0 : s0.size ≤ 2 ^ 40) (hB : SeqBox w Bp Bs Bv c s0) (hp : Bp ≠ Bs) (hv : Bv ≠ Bs)
    (I Ix : List ByteArray → World → Prop) (hI : OwnFrom w.heap.size I) (hIx : OwnFrom w.heap.size Ix) (hIs : ∀ pre W v, I pre W → I pre (W.setCell ⟨Bs, 0, none⟩ v)) (h0 : I [] w) (a₁ : ByteArray → Act)
    (hassign : ∀ (l : Nat) (x : ByteArray) (W : World) (K : Act → World → Prop), K (a₁ x) W →
      assign.wpIn (Fence.wide.inRound l) (n - 1 - 1) Tryd.prog (Exit.then K (fun _ _ _ => False)) { tmps := (ps.zip #[.string x]).foldl (fun t (p, v) => t.setIfInBounds p v) a.tmps, defers := [] } W)
    (hbody : ∀ (l : Nat) (pre : List ByteArray) (x : ByteArray) (W : World), I pre W → w.heap.size + 1 < W.heap.size → x.size ≤ 2 ^ 40 → (∃ post, splitB s0 c = pre ++ x :: post) →
      body.wpIn (Fence.wide.inRound l) (n - 1 - 1) Tryd.prog (seqPost Bp Bs Bv w.heap.size I Ix (pre ++ [x]) W) (a₁ x) W)
    (hdone : ∀ (W : World), I (splitB s0 c) W → W.heap[w.heap.size]? = some (.deferred (some [])) → Q .normal { a with defers := { target := .collected w.heap.size, args := #[] } :: a.defers } W)
    (hstop : ∀ (pre : List ByteArray) (W : World), (∃ post, splitB s0 c = pre ++ post) → Ix pre W → W.heap[w.heap.size]? = some (.deferred (some [])) → Code.ret.wpIn Fence.wide n Tryd.prog Q { a with defers := { target := .collected w.heap.size, args := #[] } :: a.defers } W) :
    (Code.rangeFunc g ps assign body).wpIn Fence.wide n Tryd.prog Q a w := by
  have b1 : Bp < w.heap.size := (Array.getElem?_eq_some_iff.1 hB.sep).1
  have b2 : Bs < w.heap.size := (Array.getElem?_eq_some_iff.1 hB.rest).1
  have b3 : Bv < w.heap.size := (Array.getElem?_eq_some_iff.1 hB.save).1
  refine wpIn_rangeFunc fun fn hfn => ?_
  obtain ⟨rec, hrec⟩ : ∃ rec : LoopState → Option Code → Loop, rec = fun st pe => { state := st, pending := pe, fn, tmps := a.tmps, params := ps, assign, body, defers := w.heap.size } := ⟨_, rfl⟩
  obtain ⟨W1, hW1⟩ : ∃ W1, (w.alloc (.deferred (some []))).alloc (.loop (rec .ready none)) = W1 := ⟨_, rfl⟩
  have hsz : (w.alloc (.deferred (some []))).heap.size = w.heap.size + 1 := World.size_alloc _ _
  have hrd : W1.heap[w.heap.size + 1]? = some (.loop (rec .ready none)) := by
    rw [← hW1, ← hsz]; exact World.alloc_heap_new _ _
  have hdf : W1.heap[w.heap.size]? = some (.deferred (some [])) := by
    rw [← hW1]; exact (Below.heap_alloc _ _ _ (by rw [hsz]; omega)).trans (World.alloc_heap_new w _)
  have hk1 : KpS Bp Bs Bv w W1 := by
    have e : ∀ k, k < w.heap.size → W1.heap[k]? = w.heap[k]? := fun k hk => by
      rw [← hW1]; exact (Below.heap_alloc _ _ _ (by rw [hsz]; omega)).trans (Below.heap_alloc _ _ _ hk)
    exact ⟨e _ b1, e _ b2, e _ b3⟩
  have hI1 : I [] W1 := by rw [← hW1]; exact hI.alloc _ (hI.alloc _ h0)
  have eg : (callFunc 55 #[.func (.yield (w.heap.size + 1)) #[] #[], .pointer (some ⟨Bp, 0, none⟩), .pointer (some ⟨Bs, 0, none⟩), .pointer (some ⟨Bv, 0, none⟩)]).run Tryd.prog W1 = .ok (.enter 55 #[.func (.yield (w.heap.size + 1)) #[] #[], .pointer (some ⟨Bp, 0, none⟩), .pointer (some ⟨Bs, 0, none⟩), .pointer (some ⟨Bv, 0, none⟩)]) W1 := enters_of Tryd.func55 (by kernel_rfl) rfl _ _
  refine ⟨w.heap.size + 1, [{ target := .collected w.heap.size, args := #[] }], W1, { target := .fn (.func 55) #[.pointer (some ⟨Bp, 0, none⟩), .pointer (some ⟨Bs, 0, none⟩), .pointer (some ⟨Bv, 0, none⟩)], args := #[.func (.yield (w.heap.size + 1)) #[] #[]] }, W1, 55, #[.func (.yield (w.heap.size + 1)) #[] #[], .pointer (some ⟨Bp, 0, none⟩), .pointer (some ⟨Bs, 0, none⟩), .pointer (some ⟨Bv, 0, none⟩)], W1, ?_, ?_, fun _ _ => trivial, ?_, (fun h => Bool.noConfusion h), ?_⟩
  · rw [← hW1, hrec]; exact run_enterLoop_outer _ _ _ _ _
  · simp only [resolve, hg]
    simp [go_sem]
  · simp only [invoke]
    simp [go_sem, eg]
  refine CallsIn.mono (splitSeq1_in (n - 1) (w.heap.size + 1) Bp Bs Bv c s0 hs0 hp hv
    (fun pre W => I pre W ∧ W.heap[w.heap.size + 1]? = some (.loop (rec .ready none)) ∧ W.heap[w.heap.size]? = some (.deferred (some [])))
    (fun pre W => Ix pre W ∧ W.heap[w.heap.size + 1]? = some (.loop (rec .done (some .ret))) ∧ W.heap[w.heap.size]? = some (.deferred (some [])))
    (fun pre W v h => ⟨hIs _ _ _ h.1, (Below.heap_setCell _ _ _ _ (by show w.heap.size + 1 ≠ Bs; omega)).trans h.2.1, (Below.heap_setCell _ _ _ _ (by show w.heap.size ≠ Bs; omega)).trans h.2.2⟩)
    ?round W1 (hB.kept hk1) ⟨hI1, hrd, hdf⟩) ?_
  case round =>
    rintro pre x W ⟨hi, hl, hd⟩ hx hpost
    have hlt : w.heap.size + 1 < W.heap.size := (Array.getElem?_eq_some_iff.1 hl).1
    have hy := run_yield (P := Tryd.prog) (args := #[.string x]) hl (by rw [hrec]; exact hps.symm)
    rw [hrec] at hy
    refine ⟨fn, _, assign, body, hy, roundIn_of_wpIn hfn (hassign _ x W _ ⟨_, run_beginRound hl (by rw [hrec]), ?_⟩)⟩
    obtain ⟨Wb, hWb⟩ : ∃ Wb, W.putObj (w.heap.size + 1) (.loop { rec .ready none with state := .busy }) = Wb := ⟨_, rfl⟩
    have hl2 : Wb.heap[w.heap.size + 1]? = some (.loop { rec .ready none with state := .busy }) := by rw [← hWb]; exact World.putObj_heap_same hlt
    have hd2 : Wb.heap[w.heap.size]? = some (.deferred (some [])) := by rw [← hWb]; exact (World.putObj_heap_other (by omega)).trans hd
    have hk2 : KpS Bp Bs Bv W Wb := by rw [← hWb]; exact putObj_kpS (by omega) (by omega) (by omega)
    have hi2 : I pre Wb := by rw [← hWb]; exact hI.putObj _ hi (by omega) hl rfl
    have hlt2 : w.heap.size + 1 < Wb.heap.size := (Array.getElem?_eq_some_iff.1 hl2).1
    rw [hWb]
    refine wpIn_mono (hbody _ pre x Wb hi2 hlt2 hx hpost) ?_
    have fin : ∀ (jump : Option Code) (W3 : World), Kp5 Bp Bs Bv w.heap.size Wb W3 →
        (Instr.endRound (w.heap.size + 1) jump).run Tryd.prog W3 = .ok (.bool jump.isNone) (W3.putObj (w.heap.size + 1) (.loop (rec (if jump.isNone then .ready else .done) jump))) ∧
        W3.heap[w.heap.size + 1]? = some (.loop { rec .ready none with state := .busy }) ∧
        (W3.putObj (w.heap.size + 1) (.loop (rec (if jump.isNone then .ready else .done) jump))).heap[w.heap.size + 1]? = some (.loop (rec (if jump.isNone then .ready else .done) jump)) ∧
        (W3.putObj (w.heap.size + 1) (.loop (rec (if jump.isNone then .ready else .done) jump))).heap[w.heap.size]? = some (.deferred (some [])) := fun jump W3 hk3 => by
      have hl3 := hk3.2.2.trans hl2
      have hr := run_endRound (P := Tryd.prog) jump hl3
      rw [hrec] at hr hl3 ⊢
      exact ⟨hr, hl3, World.putObj_heap_same (Array.getElem?_eq_some_iff.1 hl3).1, (World.putObj_heap_other (by omega)).trans (hk3.2.1.trans hd2)⟩
    rintro e a3 W3 hpo
    cases e with
    | normal =>
      obtain ⟨hk3, hi3⟩ := hpo
      obtain ⟨hr, hl3, hl4, hd4⟩ := fin none W3 hk3
      exact ⟨_, _, hr, .inl ⟨rfl, ⟨hI.putObj _ hi3 (by omega) hl3 rfl, hl4, hd4⟩, (hk2.trans hk3.1).trans (putObj_kpS (by omega) (by omega) (by omega))⟩⟩
    | ret =>
      obtain ⟨hk3, hi3⟩ := hpo
      obtain ⟨hr, hl3, hl4, hd4⟩ := fin (some .ret) W3 hk3
      exact ⟨_, _, hr, .inr ⟨rfl, hIx.putObj _ hi3 (by omega) hl3 rfl, hl4, hd4⟩⟩
    | exit id => exact hpo.elim
    | goto t => exact hpo.elim
    | panic ch => exact hpo.elim
    | outgrown => exact hpo.elim
  rintro e W2 ⟨⟨v, rfl⟩, ⟨hi, hl, hd⟩ | ⟨pre, hpost, hi, hl, hd⟩⟩
  · refine ⟨none, _, by have h := run_endLoop (P := Tryd.prog) hl (by rw [hrec]; simp); rw [hrec] at h; exact h, hdone _ (hI.putObj _ hi (by omega) hl rfl) ((World.putObj_heap_other (by omega)).trans hd)⟩
  · refine ⟨some .ret, _, by have h := run_endLoop (P := Tryd.prog) hl (by rw [hrec]; simp); rw [hrec] at h; exact h, hstop pre _ hpost (hIx.putObj _ hi (by omega) hl rfl) ((World.putObj_heap_other (by omega)).trans hd)⟩
end Go.Proofs.YtklbehapbchnaaaDoor
namespace Go.Proofs.YtklbehapbchnaaaDoor
open Go.RowKit
set_option linter.unusedVariables false
def InK (x : LkZ) : Prop := (-9223372036854775808 ≤ x.1 ∧ x.1 ≤ 9223372036854775807) ∧ (-9223372036854775808 ≤ x.2.1 ∧ x.2.1 ≤ 9223372036854775807)
theorem RngK.mem {L : List LkZ} (h : RngK L) : ∀ x ∈ L, InK x := fun x hx => by
  obtain ⟨j, hj, rfl⟩ := List.getElem_of_mem hx
  have := h j hj
  rw [nthK_lt hj] at this
  exact this
theorem RngK.app {L : List LkZ} (h : RngK L) {x : LkZ} (hx : InK x) : RngK (L ++ [x]) := fun j hj => by
  rw [nthK_lt hj]
  by_cases h' : j < L.length
  · rw [List.getElem_append_left h']
    have := h j h'
    rwa [nthK_lt h'] at this
  · have e : j = L.length := by rw [List.length_append] at hj; simp at hj; omega
    subst e
    rw [List.getElem_append_right (Nat.le_refl _)]
    simpa [InK] using hx
theorem RngK.nil : RngK [] := fun j hj => absurd hj (Nat.not_lt_zero _)
def lkCell (x : LkZ) : List Value := [.int .i64 x.1, .int .i64 x.2.1, .bool x.2.2]
theorem linkCells_app : ∀ (Q : List LkZ) (x : LkZ), linkCells (Q ++ [x]) = linkCells Q ++ lkCell x
  | [], _ => rfl
  | p :: Q, x => by simp only [List.cons_append, linkCells, linkCells_app Q x]
/-- no list of links has this text -/
def NoLk (t : ByteArray) : Prop := ∀ L : List LkZ, 0 < L.length → RngK L → fmtLinks L ≠ t
/-- the answer -/
def AnsK (t : ByteArray) (v : List LkZ) (b : Bool) : Prop := (t = ⟨#[61]⟩ ∧ v = [] ∧ b = true) ∨ (t ≠ ⟨#[61]⟩ ∧ 0 < v.length ∧ RngK v ∧ fmtLinks v = t ∧ b = true) ∨ (t ≠ ⟨#[61]⟩ ∧ NoLk t ∧ v = [] ∧ b = false)
theorem linkB_inj {x y : LkZ} (hx : InK x) (hy : InK y) (h : linkB x = linkB y) : x = y := by
  have h1 := linkB_split x
  rw [h, linkB_split y] at h1
  simp only [List.cons.injEq, and_true] at h1
  have e1 : IsNum (numB x.1) y.1 := ⟨hy.1, h1.1.symm⟩
  have e2 : IsNum (numB x.2.1) y.2.1 := ⟨hy.2, h1.2.symm⟩
  have f1 : IsNum (numB x.1) x.1 := ⟨hx.1, rfl⟩
  have f2 : IsNum (numB x.2.1) x.2.1 := ⟨hx.2, rfl⟩
  have g1 := linkB_head x (linkB_pos x)
  have g2 := linkB_head y (linkB_pos y)
  obtain ⟨a, b, c⟩ := x
  obtain ⟨a', b', c'⟩ := y
  have k1 := f1.uniq e1
  have k2 := f2.uniq e2
  simp only [] at k1 k2 g1 g2
  subst k1; subst k2
  have k3 : c = c' := by
    rw [← g1, ← g2]
    have : ∀ (s s' : ByteArray) (e : s = s') (h : 0 < s.size) (h' : 0 < s'.size), (((s[0]'h).toNat : Int) == 45) = (((s'[0]'h').toNat : Int) == 45) := by
      intro s s' e h h'; subst e; rfl
    exact this _ _ h _ _
  rw [k3]
theorem fmt_inj {L M : List LkZ} (h0 : 0 < L.length) (h1 : 0 < M.length) (hL : RngK L) (hM : RngK M) (h : fmtLinks L = fmtLinks M) : L = M := by
  have e := fmt_split h0
  rw [h, fmt_split h1] at e
  have hl : L.length = M.length := by have := congrArg List.length e; simpa using this.symm
  refine List.ext_getElem hl fun i hi hi' => ?_
  have e2 : (M.map linkB)[i]? = (L.map linkB)[i]? := by rw [e]
  rw [List.getElem?_map, List.getElem?_map, List.getElem?_eq_getElem hi, List.getElem?_eq_getElem hi'] at e2
  simp only [Option.map_some, Option.some.injEq] at e2
  exact (linkB_inj (hM.mem _ (List.getElem_mem _)) (hL.mem _ (List.getElem_mem _)) e2).symm
theorem AnsK.uniq {t : ByteArray} {v v' : List LkZ} {b b' : Bool} (h : AnsK t v b) (h' : AnsK t v' b') : v = v' ∧ b = b' := by
  rcases h with ⟨ht, hv, hb⟩ | ⟨ht, h0, hr, hf, hb⟩ | ⟨ht, hn, hv, hb⟩ <;> rcases h' with ⟨ht', hv', hb'⟩ | ⟨ht', h0', hr', hf', hb'⟩ | ⟨ht', hn', hv', hb'⟩
  · exact ⟨hv.trans hv'.symm, hb.trans hb'.symm⟩
  · exact absurd ht ht'
  · exact absurd ht ht'
  · exact absurd ht' ht
  · exact ⟨fmt_inj h0 h0' hr hr' (hf.trans hf'.symm), hb.trans hb'.symm⟩
  · exact absurd hf (hn' _ h0 hr)
  · exact absurd ht' ht
  · exact absurd hf' (hn _ h0' hr')
  · exact ⟨hv.trans hv'.symm, hb.trans hb'.symm⟩
theorem AnsK.rng {t : ByteArray} {v : List LkZ} {b : Bool} (h : AnsK t v b) : RngK v := by
  rcases h with ⟨_, rfl, _⟩ | ⟨_, _, hr, _, _⟩ | ⟨_, _, rfl, _⟩
  · exact RngK.nil
  · exact hr
  · exact RngK.nil
/-- what a part must be, read to a link -/
structure PartG (G : ByteArray → LkZ → Prop) : Prop where
  link : ∀ y x, InK y → G (linkB y) x → x = y
theorem map_nth {L : List LkZ} {P : List ByteArray} (h : P = L.map linkB) {k : Nat} (hk : k < L.length) : nthS P k = linkB (nthK L k) := by
  subst h
  rw [nthS_lt (by simpa using hk), nthK_lt hk, List.getElem_map]
theorem ans_all {G : ByteArray → LkZ → Prop} (hG : PartG G) {t : ByteArray} (ht : t ≠ ⟨#[61]⟩) {Q : List LkZ} (hl : Q.length = (splitB t 32).length) (hr : RngK Q) (hq : ∀ k, k < (splitB t 32).length → G (nthS (splitB t 32) k) (nthK Q k)) (h0 : 0 < (splitB t 32).length) :
    (fmtLinks Q = t → AnsK t Q true) ∧ (fmtLinks Q ≠ t → AnsK t [] false) := by
  refine ⟨fun h => .inr (.inl ⟨ht, by omega, hr, h, rfl⟩), fun h => .inr (.inr ⟨ht, fun L hL0 hLr hLf => h ?_, rfl, rfl⟩)⟩
  have e : splitB t 32 = L.map linkB := by rw [← hLf]; exact fmt_split hL0
  have hll : Q.length = L.length := by rw [hl, e]; simp
  have : Q = L := List.ext_getElem hll fun i hi hi' => by
    have h1 := hq i (by rw [← hl]; exact hi)
    rw [map_nth e hi'] at h1
    have h2 := hG.link _ _ (hLr i hi') h1
    rw [nthK_lt hi, nthK_lt hi'] at h2
    exact h2
  rw [this]; exact hLf
theorem no_part {t : ByteArray} {k : Nat} (hk : k < (splitB t 32).length) (h : ∀ x, InK x → nthS (splitB t 32) k ≠ linkB x) : NoLk t := fun L hL0 hLr hLf => by
  have e : splitB t 32 = L.map linkB := by rw [← hLf]; exact fmt_split hL0
  have hkl : k < L.length := by rw [e] at hk; simpa using hk
  exact h _ (hLr k hkl) (map_nth e hkl)
theorem part_size (s : ByteArray) (c : UInt8) (b : ByteArray) (h : b ∈ splitB s c) : b.size ≤ s.size := by
  have key : ∀ i, ∀ b ∈ (spT s c i).1, b.size ≤ s.size := by
    intro i
    induction i with
    | zero => intro b hb; cases hb
    | succ i ih =>
      intro b hb
      rw [spT] at hb
      split at hb
      · rcases List.mem_append.1 hb with hb | hb
        · exact ih b hb
        · rw [List.mem_singleton.1 hb, ByteArray.size_extract]; omega
      · exact ih b hb
  unfold splitB at h
  rcases List.mem_append.1 h with h | h
  · exact key _ b h
  · rw [List.mem_singleton.1 h, ByteArray.size_extract]; omega
theorem split_pos (s : ByteArray) (c : UInt8) : 0 < (splitB s c).length := by unfold splitB; simp
/-- a part, by the reference -/
def GoodP (s : ByteArray) (x : LkZ) : Prop := ∃ (h : 0 < s.size), (∃ a b, splitB (s.extract 1 s.size) 64 = [a, b] ∧ IsNum a x.1 ∧ IsNum b x.2.1) ∧ ((((s[0]'h).toNat : Nat) : Int) == 45) = x.2.2
theorem goodP : PartG GoodP where
  link := fun y x hy ⟨h, ⟨a, b, he, ha, hb⟩, hs⟩ => by
    rw [linkB_split] at he
    simp only [List.cons.injEq, and_true] at he
    obtain ⟨rfl, rfl⟩ := he
    rw [linkB_head] at hs
    have e1 := ha.uniq (⟨hy.1, rfl⟩ : IsNum (numB y.1) y.1)
    have e2 := hb.uniq (⟨hy.2, rfl⟩ : IsNum (numB y.2.1) y.2.1)
    obtain ⟨x1, x2, x3⟩ := x
    obtain ⟨y1, y2, y3⟩ := y
    simp only [] at e1 e2 hs
    rw [e1, e2, hs]
/-- the number of a text, 0 where it is none -/
def VN (s : ByteArray) (n : Int) : Prop := IsNum s n ∨ ((∀ m, ¬ IsNum s m) ∧ n = 0)
theorem VN.num {n m : Int} (hn : -9223372036854775808 ≤ n ∧ n ≤ 9223372036854775807) (h : VN (numB n) m) : m = n := by
  rcases h with h | ⟨h, _⟩
  · exact h.uniq ⟨hn, rfl⟩
  · exact absurd ⟨hn, rfl⟩ (h n)
theorem VN.rng {s : ByteArray} {n : Int} (h : VN s n) : -9223372036854775808 ≤ n ∧ n ≤ 9223372036854775807 := by
  rcases h with h | ⟨_, rfl⟩
  · exact h.1
  · omega
/-- a part, by the program -/
def GoodQ (s : ByteArray) (x : LkZ) : Prop := ∃ (h : 0 < s.size), VN (cutB (s.extract 1 s.size) 64).1 x.1 ∧ VN (cutB (s.extract 1 s.size) 64).2.1 x.2.1 ∧ ((((s[0]'h).toNat : Nat) : Int) == 45) = x.2.2
theorem goodQ : PartG GoodQ where
  link := fun y x hy ⟨h, ha, hb, hs⟩ => by
    rw [(linkB_cut y).1] at ha
    rw [(linkB_cut y).2] at hb
    rw [linkB_head] at hs
    have e1 := ha.num hy.1
    have e2 := hb.num hy.2
    obtain ⟨x1, x2, x3⟩ := x
    obtain ⟨y1, y2, y3⟩ := y
    simp only [] at e1 e2 hs
    rw [e1, e2, hs]
/-- what ParseLinks hands back -/
def RetPK (t : ByteArray) (w : World) (e : Ending) (w' : World) : Prop := ∃ L b a c, AnsK t L b ∧ e = .returned (.tuple #[.slice a L.length c, .bool b]) ∧ w'.ownsRow w.heap.size 38 3 (.slice a L.length c) L.length (linkCells L) ∧ Below w.heap.size w w' ∧ L.length ≤ t.size + 1
theorem fmt_len {L : List LkZ} (h : 0 < L.length) : L.length ≤ (fmtLinks L).size + 1 := by
  have e := congrArg List.length (fmt_split h)
  rw [List.length_map] at e
  have h1 := (spT_le (fmtLinks L) 32 (fmtLinks L).size).2
  unfold splitB at e
  rw [List.length_append] at e
  simp at e
  omega
theorem AnsK.len {t : ByteArray} {v : List LkZ} {b : Bool} (h : AnsK t v b) : v.length ≤ t.size + 1 := by
  rcases h with ⟨_, rfl, _⟩ | ⟨_, h0, hr, hf, _⟩ | ⟨_, _, rfl, _⟩
  · simp
  · rw [← hf]; exact fmt_len h0
  · simp
end Go.Proofs.YtklbehapbchnaaaDoor
namespace Go.Proofs.YtklbehapbchnaaaDoor
open Go.RowKit
set_option linter.unusedVariables false
def digP (s : ByteArray) : Prop := ∀ j (h : j < s.size), 48 ≤ ((s[j]'h).toNat : Int) ∧ ((s[j]'h).toNat : Int) ≤ 57
def RetDig (s : ByteArray) (w : World) (e : Ending) (w' : World) : Prop := ∃ b : Bool, (b = true → digP s) ∧ e = .returned (.bool b) ∧ w = w'
set_option maxHeartbeats 1000000 in
theorem specIsDigits_any (s : ByteArray) (w : World) (hs : s.size ≤ maxLen) :
    Calls Tryd.prog 32 #[.string s] w (RetDig s w) := by
  unfold maxLen at hs
  go_enter Tryd.func32, Tryd.ntmps32
  go_wp2_with fail
  go_loop [3] (fun i => ∃ j : Nat, j ≤ s.size ∧ i = .int .i64 j ∧ Hid (∀ j' (h : j' < s.size), j' < j → 48 ≤ ((s[j']'h).toNat : Int) ∧ ((s[j']'h).toNat : Int) ≤ 57)) (fun i => s.size - (intOf i).toNat)
  case atStart => exact ⟨0, Nat.zero_le _, rfl, Lib.hid (fun j' h h2 => absurd h2 (Nat.not_lt_zero _))⟩
  case round =>
    obtain ⟨j, hj, rfl, HA⟩ := hrel
    by_cases hlt : j < s.size
    · have hb := byte_lt s[j]
      by_cases h1 : (s[j].toNat : Int) < 48
      · go_wp2
        go_ret
        exact ⟨false, fun h => Bool.noConfusion h, rfl, rfl⟩
      · by_cases h2 : 57 < (s[j].toNat : Int)
        · go_wp2
          go_ret
          exact ⟨false, fun h => Bool.noConfusion h, rfl, rfl⟩
        · have HN : Hid (∀ j' (h : j' < s.size), j' < j + 1 → 48 ≤ ((s[j']'h).toNat : Int) ∧ ((s[j']'h).toNat : Int) ≤ 57) := Lib.hid (fun j' h hj' => by
            by_cases e : j' = j
            · subst e; omega
            · exact HA.out j' h (by omega))
          go_wp2
          go_round
          case rel => exact ⟨j + 1, by omega, by go_num, HN⟩
          case measure => simp [intOf]; omega
    · obtain rfl : j = s.size := by omega
      have HD : Hid (digP s) := Lib.hid (fun j h => HA.out j h h)
      go_wp2
      go_ret
      exact ⟨_, fun _ => HD.out, rfl, rfl⟩
theorem tdiv_ge {m c : Int} (h0 : 0 ≤ c) (h9 : c ≤ 9) (h : ¬ m < (-9223372036854775808 + c).tdiv 10) : -9223372036854775808 + c ≤ m * 10 := by
  rw [show -9223372036854775808 + c = -(9223372036854775808 - c) by omega, Int.neg_tdiv, Int.tdiv_eq_ediv_of_nonneg (by omega)] at h
  omega
end Go.Proofs.YtklbehapbchnaaaDoor
