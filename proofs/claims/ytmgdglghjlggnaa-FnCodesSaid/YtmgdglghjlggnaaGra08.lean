/-
  MirrorWord and MirrorList of the program.
-/
import Derived.Test.YtmgdglghjlggnaaGra04
import Derived.Test.YtmgdglghjlggnaaGra06
import Derived.Shelf.Abstract
import Derived.Test.YtmgdglghjlggnaaGra02
import Derived.Test.YtmgdglghjlggnaaGra07
import Derived.Test.YtmgdglghjlggnaaGra05
import Derived.Shelf.SlicesE.Reverse
import Derived.Ground.SlgnProg
import Derived.Test.YtmgdglghjlggnaaProg
import Derived.Lib.ConvBytes
import Derived.Lib.SmallJoins
import Derived.Laws.IdiomStrings
namespace Go.Proofs.Ytmgdglghjlggnaa
open Go.RowKit
set_option linter.unusedVariables false
/-- a function value that answers p at the strings of a list in every world that is as w below block B, and keeps what lay there -/
def PredStrs (B : Nat) (g : Nat) (caps : Array Value) (p : Nat → Bool) (l : List ByteArray) (w : World) : Prop :=
  ∀ j, j < l.length → ∀ W, Below B w W → Calls Try.prog g (#[.string (nthS l j)] ++ caps) W fun e W' => e = .returned (.bool (p j)) ∧ Below W.heap.size W W'
/-- the first place with a property -/
def FirstAt (p : Nat → Bool) (n : Nat) (r : Int) : Prop := (∃ j : Nat, j < n ∧ r = (j : Int) ∧ p j = true) ∨ (r = -1 ∧ ∀ j, j < n → p j = false)
set_option maxHeartbeats 400000 in
theorem indexFuncStrs_any (g : Nat) (caps : Array Value) (p : Nat → Bool) (l : List ByteArray) (a : Option Addr) (cap : Nat) (w : World) (hl : StrsIn w a l) (hlen : l.length ≤ 2 ^ 40)
    (B : Nat) (hB : B ≤ w.heap.size) (hf : PredStrs B g caps p l w) (eg : ∀ args w, (callFunc g args).run Try.prog w = .ok (.enter g args) w) :
    Calls Try.prog 32 #[.slice a l.length cap, .func (.func g) #[] caps] w fun e w' => ∃ r : Int, FirstAt p l.length r ∧ e = .returned (.int .i64 r) ∧ Below w.heap.size w w' := by
  have HF := Lib.hid hf
  have HL := Lib.hid hl
  clear hf hl
  go_enter Try.func32, Try.ntmps32
  go_wp2
  go_loopw [8] (fun i wr => ∃ j : Nat, j ≤ l.length ∧ i = .int .i64 j ∧ Hid (∀ i, i < j → p i = false) ∧ Hid (Below w.heap.size w wr)) (fun i _ => l.length - (intOf i).toNat)
  case atStart => exact ⟨0, Nat.zero_le _, rfl, Lib.hid (fun i h => by omega), Lib.hid (Below.refl _ _)⟩
  case round =>
    obtain ⟨j, hj, rfl, HA, HB⟩ := hrel
    by_cases hlt : j < l.length
    · obtain ⟨b, off, rfl, hb, hc⟩ := HL.out.cell hlt
      have h1 : wr.cell? ⟨b, off + j, none⟩ = some (.string (nthS l j)) := by rw [HB.out.cell hb]; exact hc j hlt
      have HFJ := Lib.hid (HF.out j hlt _ (HB.out.mono hB))
      clear hc
      cases hp : p j
      · have F : Hid (∀ i, i < j + 1 → p i = false) := Lib.hid (fun i hi => by
          by_cases e : i = j
          · rw [e]; exact hp
          · exact HA.out i (by omega))
        rw [hp] at HFJ
        go_wp2_with fail
        refine HFJ.out.mono ?_
        rintro e w2 ⟨rfl, hb2⟩
        have HB2 := Lib.hid (Below.now HB.out hb2)
        clear hb2 h1
        go_wp2_with fail
        go_roundw
        case rel => exact ⟨j + 1, by omega, by go_num, F, HB2⟩
        case measure => simp [intOf]; omega
      · have F : Hid (FirstAt p l.length (j : Int)) := Lib.hid (.inl ⟨j, hlt, rfl, hp⟩)
        rw [hp] at HFJ
        go_wp2_with fail
        refine HFJ.out.mono ?_
        rintro e w2 ⟨rfl, hb2⟩
        have HB2 := Lib.hid (Below.now HB.out hb2)
        clear hb2 h1
        go_wp2_with fail
        go_ret
        exact ⟨_, F.out, rfl, HB2.out⟩
    · have F : Hid (FirstAt p l.length (-1)) := Lib.hid (.inr ⟨rfl, fun i hi => HA.out i (by omega)⟩)
      go_wp2_with fail
      go_ret
      exact ⟨_, F.out, rfl, HB.out⟩
end Go.Proofs.Ytmgdglghjlggnaa
namespace Go.Proofs.Ytmgdglghjlggnaa
open Go.RowKit
set_option linter.unusedVariables false
def TwoB (w wr : World) (v : Value) (xs : List Value) (u : Value) (ys : List Value) : Prop :=
  Bld 9 1 w wr v xs.length xs ∧ Bld 3 1 w wr u ys.length ys ∧ ∀ k, v.ownBlock = some k → u.ownBlock ≠ some k
theorem TwoB.later {w wr wr' : World} {v u : Value} {xs ys : List Value} (h : TwoB w wr v xs u ys) (hb : Below wr.heap.size wr wr') : TwoB w wr' v xs u ys := ⟨h.1.later hb, h.2.1.later hb, h.2.2⟩
theorem keptB {T : TypeId} {w wr wr' : World} {v : Value} {n : Nat} {xs : List Value} {own : Option Nat} (h : Bld T 1 w wr v n xs) (hg : wr.grownBy wr' own) (hne : ∀ k, v.ownBlock = some k → own ≠ some k) (ho : ∀ k, own = some k → w.heap.size ≤ k) : Bld T 1 w wr' v n xs := by
  refine ⟨h.1.kept hg ?_, h.2.grown hg h.2.size ho⟩
  cases hv : v.ownBlock with
  | none => exact .inl rfl
  | some k => exact .inr fun e => hne k hv (e.symm ▸ rfl)
theorem owns_slot {w : World} {base : Nat} {T : TypeId} {v : Value} {n : Nat} {xs : List Value} (h : w.ownsRow base T 1 v n xs) (h0 : 0 < n) : ∃ g cap, v = .slice (some ⟨g, 0, none⟩) n cap := by
  rcases h.2 with ⟨hv, h1⟩ | ⟨g, cap', cur, hv, _⟩
  · omega
  · exact ⟨g, cap', hv⟩
end Go.Proofs.Ytmgdglghjlggnaa
namespace Go.Proofs.Ytmgdglghjlggnaa
open Go.RowKit
set_option linter.unusedVariables false
set_option maxHeartbeats 1000000 in
theorem implCountReadings_any (l : List ByteArray) (a : Option Addr) (cap : Nat) (s : ByteArray) (w : World) (hL : StrsIn w a l) (hl : listP l) (hcap : l.length ≤ cap) (hs : wordOkB 4 s = true) :
    Calls Try.prog 12 #[.slice a l.length cap, .string s] w fun e w' => ∃ c, RdN (bwL l) (bw s) c ∧ e = .returned (.int .i64 ((c : Nat) : Int)) ∧ Below w.heap.size w w' := by
  have hl8 := hl.1.2
  have hs16 : s.size ≤ 16 := by
    unfold wordOkB at hs
    simp only [Bool.and_eq_true, decide_eq_true_eq] at hs
    omega
  have HOK : Hid (∀ W, StrsIn W a l → Calls Try.prog 7 #[.slice a l.length cap] W fun e w' => e = .returned (.bool true) ∧ Below W.heap.size W w') := Lib.hid (fun W h => (implListOk_any l a cap W h (by omega) hcap (fun j hj => by have := (hl.2 j hj).2.1.2; unfold maxLen; omega)).mono fun e w' ⟨b, hb, he, hw⟩ => ⟨by rw [he, hb.2 hl], hw⟩)
  have HWO := Lib.hid (fun W => implWordOk_any 4 s W (by unfold maxLen; omega))
  have HRD := Lib.hid (fun W h => readings_any l a cap s W h hl hs16)
  have HL := Lib.hid hL
  rw [hs] at HWO
  clear hL hl hs hcap
  go_enter Try.func12, Try.ntmps12
  go_wp2_with fail
  refine (HOK.out _ HL.out).mono ?_
  rintro e w1 ⟨rfl, hb1⟩
  have HB1 := Lib.hid hb1
  clear hb1
  go_wp2_with fail
  refine (HWO.out _).mono ?_
  rintro e w2 ⟨rfl, hw2⟩
  replace hw2 := hw2.symm
  subst hw2
  go_wp2_with fail
  refine (HRD.out _ (HL.out.later HB1.out)).mono ?_
  rintro e w3 ⟨g, cs, hr, rfl, hc, hb3⟩
  have c0 := hc.cell (v := 0) (by omega)
  have F := Lib.hid (hr.2.1 0 (Nat.le_refl _) (Nat.zero_le _))
  have HB3 := Lib.hid (Below.now HB1.out hb3)
  clear hr hc hb3
  generalize cs.getD 0 0 = c at *
  rw [List.drop_zero] at F
  have hN : (0 : Int) < ((s.size : Nat) : Int) + 1 := by omega
  go_wp2_with fail
  go_ret
  exact ⟨c, F.out, rfl, HB3.out⟩
/-- the place p of the word is behind the words told, and some reading of the rest is left -/
structure RoP (l : List ByteArray) (s : ByteArray) (r : List Nat) (p : Nat) : Prop where
  le : p ≤ s.size
  mem : ∀ x ∈ r, x < l.length
  flat : (r.map fun i => (bwL l).getD i []).flatten ++ (bw s).drop p = bw s
  len : r.length ≤ p
def fitB (l : List ByteArray) (s : ByteArray) (cs : List Nat) (p : Nat) (i : Nat) : Bool := Lib.hasPrefix (s.extract p s.size).data.toList (nthS l i).data.toList && decide (0 < cs.getD (p + (nthS l i).size) 0)
theorem fit_ex {l : List ByteArray} {s : ByteArray} {cs : List Nat} (hl : listP l) (h : RdRow l s cs 0) {p : Nat} (hp : p < s.size) (hc : 0 < cs.getD p 0) : ∃ i, i < l.length ∧ fitB l s cs p i = true := by
  obtain ⟨X, hX, hXl⟩ := h.2.1 p (Nat.zero_le _) (by omega)
  cases X with
  | nil =>
    have h9 : 0 = cs.getD p 0 := hXl
    omega
  | cons xs X =>
    have h1 := (hX.2 xs).1 (List.mem_cons_self ..)
    cases xs with
    | nil =>
      have := congrArg List.length h1.2
      rw [List.length_drop, bw_len] at this
      have h9 : (0 : Nat) = s.size - p := this
      omega
    | cons i t =>
      obtain ⟨hi, r, hr, ht⟩ := SqL.cons.1 h1
      have hi2 : i < l.length := by simpa [bwL] using hi
      rw [bwL_get hi2] at hr
      have hsz : (s.extract p s.size).size = s.size - p := by rw [ByteArray.size_extract]; omega
      have hb : begP (s.extract p s.size) (nthS l i) := begP_iff.2 ⟨r, by show bw (nthS l i) ++ r = bw (s.extract p s.size); rw [bw_drop, hr]⟩
      refine ⟨i, hi2, ?_⟩
      unfold fitB
      rw [(hasPre_iff _ _).2 hb, Bool.true_and, decide_eq_true_eq]
      have h2 := h.2.1 (p + (nthS l i).size) (Nat.zero_le _) (by have := hb.1; omega)
      obtain ⟨Y, hY, hYl⟩ := h2
      have e : (bw s).drop (p + (nthS l i).size) = r := by
        rw [← List.drop_drop, hr, show (nthS l i).size = (bw (nthS l i)).length from rfl, List.drop_left]
      rw [e] at hY
      rw [← hYl]
      exact List.length_pos_of_mem ((hY.2 t).2 ht)
theorem RoP.put {l : List ByteArray} {s : ByteArray} {cs : List Nat} {r : List Nat} {p i : Nat} (h : RoP l s r p) (hl : listP l) (hp : p < s.size) (hi : i < l.length) (hf : fitB l s cs p i = true) : RoP l s (r ++ [i]) (p + (nthS l i).size) ∧ 0 < cs.getD (p + (nthS l i).size) 0 ∧ 1 ≤ (nthS l i).size := by
  unfold fitB at hf
  rw [Bool.and_eq_true, decide_eq_true_eq] at hf
  have hb := (hasPre_iff _ _).1 hf.1
  have hsz : (s.extract p s.size).size = s.size - p := by rw [ByteArray.size_extract]; omega
  have h1 := hb.1
  have h2 := (hl.2 i hi).2.1.1
  refine ⟨⟨by omega, fun x hx => ?_, ?_, by rw [List.length_append, List.length_singleton]; have := h.len; omega⟩, hf.2, h2⟩
  · rcases List.mem_append.1 hx with hx | hx
    · exact h.mem x hx
    · rw [List.mem_singleton.1 hx]; exact hi
  · obtain ⟨t, ht⟩ := begP_iff.1 hb
    have e1 : (bw s).drop p = bw (nthS l i) ++ t := by rw [← bw_drop]; exact ht.symm
    have e2 : (bw s).drop (p + (nthS l i).size) = t := by
      rw [← List.drop_drop, e1, show (nthS l i).size = (bw (nthS l i)).length from rfl, List.drop_left]
    rw [List.map_append, List.flatten_append, e2]
    have h3 := h.flat
    rw [e1] at h3
    rw [← h3]
    simp only [List.map_cons, List.map_nil, List.flatten_cons, List.flatten_nil, List.append_nil, bwL_get hi, List.append_assoc]
def RetRo (l : List ByteArray) (s : ByteArray) (w : World) (e : Ending) (w' : World) : Prop := ∃ r a2 c2, SqL (bwL l) (bw s) r ∧ r.length ≤ 16 ∧ e = .returned (.tuple #[.slice a2 r.length c2, .bool true]) ∧ IntsIn w' a2 (r.map Int.ofNat) ∧ Below w.heap.size w w'
set_option maxHeartbeats 1000000 in
theorem fit_pred (l : List ByteArray) (s : ByteArray) (cs : List Nat) (g p b1 b2 b3 N : Nat) (w : World) (hl : listP l) (hs : s.size ≤ 16) (hp : p < s.size) (hN : s.size + 1 = N) (h1 : w.cell? ⟨b1, 0, none⟩ = some (.string s)) (h2 : w.cell? ⟨b2, 0, none⟩ = some (.int .i64 ((p : Nat) : Int))) (h3 : w.cell? ⟨b3, 0, none⟩ = some (.slice (some ⟨g, 0, none⟩) N N)) (B : Nat) (hc : CtRow w B g N cs) :
    PredStrs w.heap.size 33 #[.pointer (some ⟨b1, 0, none⟩), .pointer (some ⟨b2, 0, none⟩), .pointer (some ⟨b3, 0, none⟩)] (fitB l s cs p) l w := by
  intro j hj W hW
  have k1 : W.cell? ⟨b1, 0, none⟩ = some (.string s) := by rw [hW.cell (World.block_lt_of_cell? w _ h1)]; exact h1
  have k2 : W.cell? ⟨b2, 0, none⟩ = some (.int .i64 ((p : Nat) : Int)) := by rw [hW.cell (World.block_lt_of_cell? w _ h2)]; exact h2
  have k3 : W.cell? ⟨b3, 0, none⟩ = some (.slice (some ⟨g, 0, none⟩) N N) := by rw [hW.cell (World.block_lt_of_cell? w _ h3)]; exact h3
  have HC := Lib.hid (hc.later hW)
  have HHP := Lib.hid (fun V => Try.strings_HasPrefix (s.extract p s.size) (nthS l j) V)
  have HPI := Lib.hid (hasPre_iff (s.extract p s.size) (nthS l j))
  have hsz : (s.extract p s.size).size = s.size - p := by rw [ByteArray.size_extract]; omega
  have HSZ := Lib.hid hsz
  have HF : Hid (fitB l s cs p j = (Lib.hasPrefix (s.extract p s.size).data.toList (nthS l j).data.toList && decide (0 < cs.getD (p + (nthS l j).size) 0))) := Lib.hid rfl
  have x3 : (p : Int) ≤ (s.size : Int) := by omega
  have x4 : p ≤ s.size := by omega
  have h6 := (hl.2 j hj).2.1
  generalize fitB l s cs p j = fb at *
  generalize nthS l j = x at *
  clear h1 h2 h3 hc hW hl hsz
  go_enter Try.func33, Try.ntmps33
  cases hb : Lib.hasPrefix (s.extract p s.size).data.toList x.data.toList
  · rw [hb] at HHP HF
    clear hb
    go_wp2_with fail
    refine (HHP.out _).mono ?_
    rintro e w' ⟨rfl, hw'⟩
    subst hw'
    go_wp2_with fail
    go_ret
    exact ⟨ret_bool (by rw [HF.out]; rfl), Below.refl _ _⟩
  · have hbb := HPI.out.1 hb
    have h7 := hbb.1
    rw [HSZ.out] at h7
    rw [hb] at HHP HF
    clear hb hbb
    obtain ⟨r, hr⟩ : ∃ r, p + x.size = r := ⟨_, rfl⟩
    have cr := HC.out.cell (v := r) (by omega)
    rw [hr] at HF
    have hsum2 : ((p : Nat) : Int) + ((x.size : Nat) : Int) = (r : Int) := by omega
    have hwr2 : IntKind.i64.wrap (r : Int) = (r : Int) := IntWalk.i64_in _ ⟨by omega, by omega⟩
    have hrN : (r : Int) < (N : Int) := by omega
    have hrN2 : r < N := by omega
    generalize cs.getD r 0 = c at *
    clear hr h7
    go_wp2_with fail
    refine (HHP.out _).mono ?_
    rintro e w' ⟨rfl, hw'⟩
    subst hw'
    go_wp2_with fail
    go_ret
    exact ⟨ret_bool (by rw [HF.out]; simp), Below.refl _ _⟩
/-- the slice of places r and the box of the place p -/
structure RoM (w4 wr : World) (v : Value) (b2 : Nat) (r : List Nat) (p : Nat) : Prop where
  bld : Bld 3 1 w4 wr v r.length (ctV r)
  box : wr.heap[b2]? = some (.cells #[.int .i64 ((p : Nat) : Int)] 3 (0, 0))
  ge : w4.heap.size ≤ b2
  far : v.ownBlock ≠ some b2
theorem RoM.lt {w4 wr : World} {v : Value} {b2 : Nat} {r : List Nat} {p : Nat} (h : RoM w4 wr v b2 r p) : b2 < wr.heap.size := (Array.getElem?_eq_some_iff.1 h.box).1
theorem RoM.cell {w4 wr : World} {v : Value} {b2 : Nat} {r : List Nat} {p : Nat} (h : RoM w4 wr v b2 r p) : wr.cell? ⟨b2, 0, none⟩ = some (.int .i64 ((p : Nat) : Int)) ∧ wr.frozen? ⟨b2, 0, none⟩ = false :=
  ⟨by rw [cell_of_row _ _ 0 _ _ _ h.box]; rfl, by simp [World.frozen?, h.box]⟩
theorem RoM.later {w4 wr w' : World} {v : Value} {b2 : Nat} {r : List Nat} {p : Nat} (h : RoM w4 wr v b2 r p) (hb : Below wr.heap.size wr w') : RoM w4 w' v b2 r p :=
  ⟨h.bld.later hb, by rw [hb.block b2 h.lt]; exact h.box, h.ge, h.far⟩
theorem RoM.put {w4 wr w' : World} {v v' : Value} {b2 : Nat} {r : List Nat} {p i : Nat} {o : Obj} (h : RoM w4 wr v b2 r p) (hb : Bld 3 1 w4 w' v' (r.length + 1) (ctV r ++ [.int .i64 ((i : Nat) : Int)])) (hg : (wr.alloc o).grownBy w' v.ownBlock) (ho : v'.ownBlock = v.ownBlock ∨ v'.ownBlock = some (wr.heap.size + 1)) : RoM w4 w' v' b2 (r ++ [i]) p := by
  have hl := h.lt
  refine ⟨?_, ?_, h.ge, fun e => ?_⟩
  · rw [List.length_append, show ctV (r ++ [i]) = ctV r ++ [.int .i64 ((i : Nat) : Int)] by simp [ctV]]; exact hb
  · rw [hg.block b2 (by simp; omega) (fun e => h.far e.symm), ← h.box]
    exact (Below.block (alloc_belowC wr o) b2 hl)
  · rcases ho with h1 | h1
    · exact h.far (h1 ▸ e)
    · rw [h1] at e
      have := Option.some.inj e
      omega
theorem RoM.setBox {w4 wr : World} {v : Value} {b2 : Nat} {r : List Nat} {p : Nat} (h : RoM w4 wr v b2 r p) (q : Nat) : RoM w4 (wr.setCell ⟨b2, 0, none⟩ (.int .i64 ((q : Nat) : Int))) v b2 r q := by
  have hg : wr.grownBy (wr.setCell ⟨b2, 0, none⟩ (.int .i64 ((q : Nat) : Int))) (some b2) := by
    have hszc : (wr.setCell ⟨b2, 0, none⟩ (.int .i64 ((q : Nat) : Int))).heap.size = wr.heap.size := by simp
    exact ⟨rfl, rfl, rfl, by rw [hszc]; exact Nat.le_refl _, fun k hk hne => by
      unfold World.setCell
      rw [Array.getElem?_modify, if_neg (fun e : b2 = k => hne (by rw [e]))]⟩
  refine ⟨keptB h.bld hg (fun k hk e => h.far (by rw [hk, e])) (fun k hk => by rw [← Option.some.inj hk]; exact h.ge), ?_, h.ge, h.far⟩
  unfold World.setCell
  rw [Array.getElem?_modify, if_pos rfl, h.box]
  rfl
theorem RoM.newBox {w4 wr : World} {v : Value} {b2 : Nat} {r : List Nat} {p : Nat} (h : RoM w4 wr v b2 r p) : RoM w4 (wr.alloc (.cells #[.int .i64 ((p : Nat) : Int)] 3)) v wr.heap.size r p :=
  ⟨h.bld.later (alloc_belowC _ _), alloc_at _ _, by have := h.bld.2.size; exact this, fun e => by have := (h.bld.1.lt _ e).2; omega⟩
/-- the number in a box -/
def boxN (u : Value) (wr : World) : Nat := match u with
  | .pointer (some a) => (match wr.cell? a with | some x => (intOf x).toNat | none => 0)
  | _ => 0
theorem RoM.boxN {w4 wr : World} {v : Value} {b2 : Nat} {r : List Nat} {p : Nat} (h : RoM w4 wr v b2 r p) : boxN (.pointer (some ⟨b2, 0, none⟩)) wr = p := by
  show (match wr.cell? ⟨b2, 0, none⟩ with | some x => (intOf x).toNat | none => 0) = p
  rw [h.cell.1]
  rfl
theorem RoM.drew {w4 wr : World} {v : Value} {b2 : Nat} {r : List Nat} {p : Nat} (h : RoM w4 wr v b2 r p) : RoM w4 wr.drew v b2 r p := h.later (Below.drew (Below.refl _ _))
set_option maxRecDepth 20000 in
set_option maxHeartbeats 2000000 in
theorem implReadingOf_any (l : List ByteArray) (a : Option Addr) (cap : Nat) (s : ByteArray) (w : World) (hL : StrsIn w a l) (hl : listP l) (hcap : l.length ≤ cap) (hs : wordOkB 4 s = true) (hc1 : ∀ c, RdN (bwL l) (bw s) c → 1 ≤ c) :
    Calls Try.prog 14 #[.slice a l.length cap, .string s] w (RetRo l s w) := by
  have hl8 := hl.1.2
  have hs16 : s.size ≤ 16 := by
    unfold wordOkB at hs
    simp only [Bool.and_eq_true, decide_eq_true_eq] at hs
    omega
  have HLP := Lib.hid hl
  have HC1 := Lib.hid hc1
  have HCR := Lib.hid (fun W h => implCountReadings_any l a cap s W h hl hcap hs)
  have HRD := Lib.hid (fun W h => readings_any l a cap s W h hl hs16)
  have HB := Lib.hid (alloc_belowC w (.cells #[.string s] 9))
  have HL := Lib.hid (hL.later HB.out)
  have HX : Hid (∀ W, Below (w.alloc (.cells #[.string s] 9)).heap.size (w.alloc (.cells #[.string s] 9)) W → W.cell? ⟨w.heap.size, 0, none⟩ = some (.string s)) := Lib.hid (fun W hW => by rw [hW.cell (by simp)]; simp)
  clear hL hl hs hcap hc1
  go_enter Try.func14, Try.ntmps14
  go_upto_region 1 with fail
  generalize w.alloc (.cells #[.string s] 9) = w1 at *
  have z0 := HX.out w1 (Below.refl _ _)
  go_wp2_with fail
  refine (HCR.out _ HL.out).mono ?_
  rintro e w2 ⟨c, hc, rfl, hb2⟩
  have hcp := HC1.out c hc
  have HB2 := Lib.hid hb2
  have hcp1 : ¬ ((c : Nat) : Int) < 1 := by omega
  clear hc hb2 z0 HCR
  have z0 := HX.out w2 HB2.out
  go_wp2_with fail
  refine (HRD.out _ (HL.out.later HB2.out)).mono ?_
  rintro e w3 ⟨g, cs, hr, rfl, hct, hb3⟩
  have HR := Lib.hid hr
  have HB3 := Lib.hid (Below.now HB2.out hb3)
  have HCT := Lib.hid hct
  have hpos : 1 ≤ cs.getD 0 0 := HC1.out _ (by have := hr.2.1 0 (Nat.le_refl _) (Nat.zero_le _); rw [List.drop_zero] at this; exact this)
  obtain ⟨N, hN⟩ : ∃ N, s.size + 1 = N := ⟨_, rfl⟩
  rw [hN] at HCT
  rw [hN]
  have HNE := Lib.hid hN
  clear hr hct hb3 z0 HRD hcp hcp1
  go_upto_region 5 with fail
  clear hN
  have HB4 := Lib.hid (Below.now HB3.out (alloc_belowC w3 (.cells #[.slice (some ⟨g, 0, none⟩) N N] 33)))
  have HCT4 := Lib.hid (HCT.out.later (alloc_belowC w3 (.cells #[.slice (some ⟨g, 0, none⟩) N N] 33)))
  have HX3 : Hid (∀ W, Below (w3.alloc (.cells #[.slice (some ⟨g, 0, none⟩) N N] 33)).heap.size (w3.alloc (.cells #[.slice (some ⟨g, 0, none⟩) N N] 33)) W → W.cell? ⟨w3.heap.size, 0, none⟩ = some (.slice (some ⟨g, 0, none⟩) N N)) := Lib.hid (fun W hW => by rw [hW.cell (by simp)]; simp)
  generalize w3.alloc (.cells #[.slice (some ⟨g, 0, none⟩) N N] 33) = w4 at *
  generalize w3.heap.size = b3 at *
  have HM : Hid (RoM w4 (w4.alloc (.cells #[.int .i64 ((0 : Nat) : Int)] 3)) (.slice none 0 0) w4.heap.size [] 0) := Lib.hid ⟨Bld.nil 3 1 (alloc_belowC _ _), alloc_at _ _, Nat.le_refl _, fun e => (by cases e)⟩
  have HRO : Hid (RoP l s [] 0) := Lib.hid ⟨Nat.zero_le _, fun x hx => (by cases hx), by rw [List.drop_zero]; rfl, Nat.le_refl _⟩
  go_upto_region 6 with fail
  generalize w4.alloc (.cells #[.int .i64 0] 3) = w5 at *
  go_loopw [7, 8] (fun v u wr => ∃ (r : List Nat) (p b2 : Nat), u = .pointer (some ⟨b2, 0, none⟩) ∧ Hid (RoM w4 wr v b2 r p) ∧ Hid (RoP l s r p) ∧ Hid (0 < cs.getD p 0)) (fun v u wr => s.size - boxN u wr)
  case atStart => exact ⟨[], 0, _, rfl, HM, HRO, Lib.hid hpos⟩
  case round =>
    clear HM HRO
    obtain ⟨r, p, b2, rfl, HM, HRO, HPO⟩ := hrel
    obtain ⟨hbc, hbf⟩ := HM.out.cell
    have z0 := HX.out wr (Below.now HB4.out HM.out.bld.2)
    have HMB := Lib.hid HM.out.boxN
    by_cases hps : p < s.size
    · have hps1 : (p : Int) < (s.size : Int) := by omega
      obtain ⟨j, hj, hjf⟩ := fit_ex HLP.out HR.out hps HPO.out
      have HJF := Lib.hid hjf
      have HIX := Lib.hid (indexFuncStrs_any 33 #[.pointer (some ⟨w.heap.size, 0, none⟩), .pointer (some ⟨b2, 0, none⟩), .pointer (some ⟨b3, 0, none⟩)] (fitB l s cs p) l a cap wr (HL.out.later (Below.now HB4.out HM.out.bld.2)) (by omega) wr.heap.size (Nat.le_refl _) (fit_pred l s cs g p w.heap.size b2 b3 N wr HLP.out hs16 hps HNE.out z0 hbc (HX3.out wr HM.out.bld.2) _ (HCT4.out.later HM.out.bld.2)) (enters_of Try.func33 (by kernel_rfl) rfl))
      clear hjf
      go_wp2_with fail
      refine HIX.out.mono ?_
      rintro e w6 ⟨ri, hfa, rfl, hb6⟩
      obtain ⟨i, hi, rfl, hif⟩ : ∃ i : Nat, i < l.length ∧ ri = (i : Int) ∧ fitB l s cs p i = true := by
        rcases hfa with ⟨i, h1, h2, h3⟩ | ⟨_, h2⟩
        · exact ⟨i, h1, h2, h3⟩
        · rw [h2 j hj] at HJF
          exact absurd HJF.out Bool.false_ne_true
      obtain ⟨hro2, hpo2, hx1⟩ := HRO.out.put HLP.out hps hi hif
      have HRO2 := Lib.hid hro2
      have HPO2 := Lib.hid hpo2
      have hx6 := (HLP.out.2 i hi).2.1.2
      have hp16 := HRO.out.len
      have HM6 := Lib.hid (HM.out.later hb6)
      clear hfa hif hro2 hpo2 hbc hbf z0 HIX HJF hb6 hj
      go_wp2_with (at_builtin; refine wpList_appM rfl (.tmp 24) (.tmp 26) rfl Try.underlying33 Try.infoInt rfl (by decide) rfl (HM6.out.bld.later (alloc_belowC _ (.cells #[.int .i64 ((i : Nat) : Int)] 3))) rfl (Src.lit (w := w6) (T := 3) (c := 1) (m := 1) [.int .i64 ((i : Nat) : Int)]) rfl (fun u hu => by simp at hu; rcases hu with rfl; rfl) (by unfold maxLen; omega) (by omega) ?_)
      intro v7 w7 hbd hg7 ho7
      have HM7 := Lib.hid (HM6.out.put hbd hg7 ho7)
      clear hbd hg7 ho7 HM6 HM
      obtain ⟨hbc, hbf⟩ := HM7.out.cell
      obtain ⟨b, off, hao, _, hc0⟩ := (HL.out.later (Below.now HB4.out HM7.out.bld.2)).cell hi
      have hci := hc0 i hi
      clear hc0
      generalize nthS l i = x at *
      obtain ⟨q, hq⟩ : ∃ q, p + x.size = q := ⟨_, rfl⟩
      rw [hq] at HRO2 HPO2
      have hsum2 : ((p : Nat) : Int) + ((x.size : Nat) : Int) = (q : Int) := by omega
      have hwr2 : IntKind.i64.wrap (q : Int) = (q : Int) := IntWalk.i64_in _ ⟨by omega, by omega⟩
      have hil : (i : Int) < (l.length : Int) := by omega
      have HM8 := Lib.hid ((HM7.out.setBox q).drew)
      have hqp : p < q := by omega
      subst hao
      clear hq
      go_upto_region 9 with fail
      go_region
      clear hbc hbf hci HM7 hsum2 hwr2
      generalize (w7.setCell ⟨b2, 0, none⟩ (.int .i64 (q : Int))).drew = w8 at *
      obtain ⟨hbc, hbf⟩ := HM8.out.cell
      go_upto_region 11 with fail
      have HM9 := Lib.hid HM8.out.newBox
      have HMB9 := Lib.hid HM9.out.boxN
      go_wp2_with fail
      go_roundw
      case rel => exact ⟨_, q, _, rfl, HM9, HRO2, HPO2⟩
      case measure => rw [HMB9.out, HMB.out]; omega
    · have hps1 : ¬ (p : Int) < (s.size : Int) := by omega
      obtain rfl : p = s.size := by have := HRO.out.le; omega
      have hcs := HM.out.bld.1
      obtain ⟨av, cv, rfl⟩ : ∃ a c, u7 = .slice a r.length c := by
        rcases hcs.2 with ⟨hv, h0⟩ | ⟨g', cap', cur, hv, _⟩
        · exact ⟨none, 0, by rw [hv, h0]⟩
        · exact ⟨_, cap', hv⟩
      have F : Hid (RetRo l s w (.returned (.tuple #[.slice av r.length cv, .bool true])) wr) := Lib.hid ⟨r, av, cv, ⟨fun x hx => by have := HRO.out.mem x hx; simpa [bwL] using this, by
        have h1 := HRO.out.flat
        rw [List.drop_of_length_le (by rw [bw_len]; exact Nat.le_refl _), List.append_nil] at h1
        exact h1⟩, by have := HRO.out.len; omega, rfl, by
        have h1 := owns_cells hcs
        unfold IntsIn
        rw [ctV_ints] at h1
        exact h1, Below.now HB.out (Below.now HB4.out HM.out.bld.2)⟩
      clear hcs hbf
      go_wp2_with fail
      refine bodyPost_ret (v := .tuple #[.slice av r.length cv, .bool true]) ?_ rfl F.out
      simp [results, Try.results14, go_sem]
end Go.Proofs.Ytmgdglghjlggnaa
namespace Go.Proofs.Ytmgdglghjlggnaa
open Go.RowKit
set_option linter.unusedVariables false
theorem krS_take {l : List ByteArray} {j : Nat} (h : j < l.length) : krS 6 (bwL (l.take (j + 1))) = krS 6 (bwL (l.take j)) + 2 ^ (6 - (nthS l j).size) := by
  unfold bwL
  rw [List.take_succ_eq_append_getElem h, List.map_append, krS_app, nthS_lt h]
  simp [krS]
theorem krS_few {l : List ByteArray} : ∀ j, j ≤ l.length → krS 6 (bwL (l.take j)) ≤ 64 * j
  | 0, _ => by simp [bwL, krS]
  | j + 1, h => by
    have := krS_few j (by omega : j ≤ l.length)
    rw [krS_take h]
    have h2 : 2 ^ (6 - (nthS l j).size) ≤ 2 ^ 6 := Nat.pow_le_pow_right (by decide) (by omega)
    omega
set_option maxRecDepth 20000 in
set_option maxHeartbeats 2000000 in
theorem implKraftSum_any (l : List ByteArray) (a : Option Addr) (cap : Nat) (w : World) (hL : StrsIn w a l) (hl : listP l) (hcap : l.length ≤ cap) :
    Calls Try.prog 13 #[.slice a l.length cap, .int .i64 2] w fun e w' => e = .returned (.tuple #[.int .i64 ((krS 6 (bwL l) : Nat) : Int), .int .i64 64]) ∧ Below w.heap.size w w' := by
  have hl8 := hl.1.2
  have HLP := Lib.hid hl
  have HOK : Hid (∀ W, StrsIn W a l → Calls Try.prog 7 #[.slice a l.length cap] W fun e w' => e = .returned (.bool true) ∧ Below W.heap.size W w') := Lib.hid (fun W h => (implListOk_any l a cap W h (by omega) hcap (fun j hj => by have := (hl.2 j hj).2.1.2; unfold maxLen; omega)).mono fun e w' ⟨b, hb, he, hw⟩ => ⟨by rw [he, hb.2 hl], hw⟩)
  have HWI := Lib.hid (fun W => within_any 2 1 4 W)
  have hib : inB 2 1 4 = true := by simp [inB]
  have HL := Lib.hid hL
  rw [hib] at HWI
  clear hL hl hcap hib
  go_enter Try.func13, Try.ntmps13
  go_wp2_with fail
  refine (HOK.out _ HL.out).mono ?_
  rintro e w1 ⟨rfl, hb1⟩
  have HB1 := Lib.hid hb1
  clear hb1
  go_wp2_with fail
  refine (HWI.out _).mono ?_
  rintro e w2 ⟨rfl, hw2⟩
  replace hw2 := hw2.symm
  subst hw2
  go_wp2_with fail
  go_loopw [7, 19] (fun v i wr => ∃ j : Nat, j ≤ 6 ∧ i = .int .i64 (j : Nat) ∧ v = .int .i64 ((2 ^ j : Nat) : Int) ∧ wr = w2) (fun _ i _ => 6 - (intOf i).toNat)
  case atStart => exact ⟨0, by omega, rfl, rfl, rfl⟩
  case round =>
    obtain ⟨j, hj, rfl, rfl, hwr⟩ := hrel
    rw [hwr]
    clear hwr
    by_cases hlt : j < 6
    · obtain ⟨p, hp⟩ : ∃ p, 2 ^ j = p := ⟨_, rfl⟩
      have hp6 : p ≤ 64 := by rw [← hp]; exact Nat.pow_le_pow_right (by decide) (by omega : j ≤ 6)
      obtain ⟨q, hq⟩ : ∃ q, p * 2 = q := ⟨_, rfl⟩
      have HQ : Hid (2 ^ (j + 1) = q) := Lib.hid (by rw [Nat.pow_succ, hp, hq])
      have hml : ((p : Nat) : Int) * 2 = (q : Int) := by omega
      have hwr : IntKind.i64.wrap (q : Int) = (q : Int) := IntWalk.i64_in _ ⟨by omega, by omega⟩
      rw [hp]
      clear hp hq
      go_wp2_with fail
      go_roundw
      case rel => exact ⟨j + 1, by omega, by go_num, by rw [HQ.out], trivial⟩
      case measure => simp [intOf]; omega
    · obtain rfl : j = 6 := by omega
      have h64 : ((2 ^ 6 : Nat) : Int) = 64 := rfl
      rw [h64]
      clear h64 hj hlt
      go_wp2_with fail
      go_loopw [6, 27] (fun v i wr => ∃ j : Nat, j ≤ l.length ∧ i = .int .i64 (j : Nat) ∧ v = .int .i64 ((krS 6 (bwL (l.take j)) : Nat) : Int) ∧ wr = w2) (fun _ i _ => l.length - (intOf i).toNat)
      case atStart => exact ⟨0, Nat.zero_le _, rfl, rfl, rfl⟩
      case round =>
        obtain ⟨j, hj, rfl, rfl, hwr⟩ := hrel
        rw [hwr]
        clear hwr
        have hfew := krS_few (l := l) j hj
        by_cases hlt : j < l.length
        · obtain ⟨b, off, rfl, _, hc⟩ := (HL.out.later HB1.out).cell hlt
          have hcj := hc j hlt
          have HK := Lib.hid (krS_take hlt)
          have h6 := (HLP.out.2 j hlt).2.1.2
          clear hc
          generalize nthS l j = x at *
          generalize krS 6 (bwL (l.take j)) = S at *
          go_wp2_with fail
          go_loopw [10, 34] (fun v i wr => ∃ t : Nat, t ≤ x.size ∧ i = .int .i64 (t : Nat) ∧ v = .int .i64 ((2 ^ (6 - t) : Nat) : Int) ∧ wr = w2) (fun _ i _ => x.size - (intOf i).toNat)
          case atStart => exact ⟨0, Nat.zero_le _, rfl, rfl, rfl⟩
          case round =>
            obtain ⟨t, ht, rfl, rfl, hwr⟩ := hrel
            rw [hwr]
            clear hwr
            by_cases htl : t < x.size
            · obtain ⟨q, hq⟩ : ∃ q, 2 ^ (6 - (t + 1)) = q := ⟨_, rfl⟩
              have hpq : 2 ^ (6 - t) = q * 2 := by rw [← hq, ← Nat.pow_succ]; congr 1; omega
              have hq64 : q ≤ 64 := by rw [← hq]; exact Nat.pow_le_pow_right (by decide) (by omega : 6 - (t + 1) ≤ 6)
              rw [hpq]
              obtain ⟨p, hp⟩ : ∃ p, q * 2 = p := ⟨_, rfl⟩
              rw [hp]
              have hdiv : ((p : Nat) : Int) / 2 = (q : Int) := by omega
              have hwr : IntKind.i64.wrap (q : Int) = (q : Int) := IntWalk.i64_in _ ⟨by omega, by omega⟩
              have HQ := Lib.hid hq
              clear hpq hp hq
              go_wp2_with fail
              go_roundw
              case rel => exact ⟨t + 1, by omega, by go_num, by rw [HQ.out], trivial⟩
              case measure => simp [intOf]; omega
            · obtain rfl : t = x.size := by omega
              obtain ⟨q, hq⟩ : ∃ q, 2 ^ (6 - x.size) = q := ⟨_, rfl⟩
              have hq64 : q ≤ 64 := by rw [← hq]; exact Nat.pow_le_pow_right (by decide) (by omega : 6 - x.size ≤ 6)
              rw [hq] at HK
              rw [hq]
              obtain ⟨S2, hS2⟩ : ∃ S2, S + q = S2 := ⟨_, rfl⟩
              rw [hS2] at HK
              have hsum : ((S : Nat) : Int) + ((q : Nat) : Int) = (S2 : Int) := by omega
              have hwr : IntKind.i64.wrap (S2 : Int) = (S2 : Int) := IntWalk.i64_in _ ⟨by omega, by omega⟩
              clear hS2 hq
              go_wp2_with fail
              go_roundw
              case rel => exact ⟨j + 1, by omega, by go_num, by rw [HK.out], trivial⟩
              case measure => simp [intOf]; omega
        · obtain rfl : j = l.length := by omega
          rw [List.take_length]
          obtain ⟨S, hS⟩ : ∃ S, krS 6 (bwL l) = S := ⟨_, rfl⟩
          have HS := Lib.hid hS
          rw [hS]
          clear hS
          go_wp2_with fail
          refine bodyPost_ret (v := .tuple #[.int .i64 ((S : Nat) : Int), .int .i64 64]) ?_ rfl ⟨by rw [HS.out], HB1.out⟩
          simp [results, Try.results13, go_sem]
end Go.Proofs.Ytmgdglghjlggnaa
namespace Go.Proofs
open Go.Shelf
def Try.revB_ren : Go.Shelf.Ren := ⟨fun | 35 => 48 | n => n, fun | 22 => 22 | 23 => 5 | 3 => 3 | 4 => 4 | 0 => 0 | n => n, fun | n => n⟩
theorem Try.revB : Go.Proofs.SlLaysE.n35 Try.prog Try.revB_ren := {
  mixed := by kernel_rfl
  f35 := ⟨Try.f48.name, by decide, Try.func48.trans (congrArg some (by kernel_rfl))⟩
  t0 := Try.underlying0
  a0 := Try.isAgg0
  z0 := Try.sizeOf0
  v0 := Try.zeroValue0
  t3 := Try.underlying3
  a3 := Try.isAgg3
  z3 := Try.sizeOf3
  v3 := Try.zeroValue3
  t4 := Try.underlying4
  a4 := Try.isAgg4
  z4 := Try.sizeOf4
  v4 := Try.zeroValue4
  t22 := Try.underlying22
  a22 := Try.isAgg22
  z22 := Try.sizeOf22
  v22 := Try.zeroValue22
  a23 := Try.isAgg5
  z23 := Try.sizeOf5 }
end Go.Proofs
namespace Go.Proofs.Ytmgdglghjlggnaa
open Go.RowKit
set_option linter.unusedVariables false
def encB (c : UInt8) : Value := .int .u8 (c.toNat : Int)
theorem encB_one : OneCell encB := fun _ => rfl
theorem holdsB (w : World) (s : ByteArray) : Sort.Holds encB (Lib.bytesWorld w 5 s) w.heap.size 0 s.data.toList.toArray := by
  intro j hj
  have hj2 : j < s.size := by simpa using hj
  have e : s.data.toList.toArray[j]! = s.data.toList.getD j 0 := by
    rw [getElem!_pos _ j hj]
    simp [List.getD, hj2]
  refine ⟨?_, ?_⟩
  · rw [Nat.zero_add, Lib.bytesWorld_cell w _ s j hj2, e]; rfl
  · rw [Nat.zero_add]
    have h1 : s.size ≤ (Lib.bytesCells w 5 s).size := by simp [Lib.bytesCells]
    simp only [World.frozen?, Lib.bytesWorld_at_new]
    simp
    omega
theorem grown_putRow {α : Type} [Inhabited α] (enc : α → Value) (w : World) (n g : Nat) (d : Array α) : w.grownBy (Sort.putRow enc (Sort.ahead w n) g 0 d) (some g) := by
  refine ⟨rfl, rfl, rfl, by simp [Sort.putRow, Sort.mapBlock, Sort.ahead], fun k hk hne => ?_⟩
  have : g ≠ k := fun e => hne (by rw [e])
  simp [Sort.putRow, Sort.mapBlock, Sort.ahead, Array.getElem?_modify, this]
set_option maxHeartbeats 1000000 in
theorem implMirrorWord_any (s : ByteArray) (w : World) (hs : s.size ≤ 1000) :
    Calls Try.prog 28 #[.string s] w fun e w' => e = .returned (.string (revB s)) ∧ Below w.heap.size w w' := by
  have hcv := Lib.run_convert_string_bytes (P := Try.prog) w 9 22 5 s Try.underlying9 Try.underlying22 Try.underlying5
  have HH := Lib.hid (holdsB w s)
  have HB := Lib.hid (⟨rfl, rfl, rfl, by rw [Lib.bytesWorld_size]; omega, fun j hj => Lib.bytesWorld_at_old w 5 s j hj⟩ : Below w.heap.size w (Lib.bytesWorld w 5 s))
  have HR := Lib.hid (AnyE.slices_Reverse Try.revB encB encB_one w.heap.size 0 (grownCap w s.size 0 5) s.data.toList (Lib.bytesWorld w 5 s) HH.out (by simp; omega))
  rw [show s.data.toList.length = s.size from rfl] at HR
  go_enter Try.func28, Try.ntmps28
  go_wp2_with fail
  clear hcv
  refine HR.out.mono ?_
  rintro e w3 ⟨rfl, n, hw3⟩
  have HH3 : Hid (Sort.Holds encB w3 w.heap.size 0 s.data.toList.reverse.toArray) := Lib.hid (by
    rw [hw3]
    exact Sort.holds_putRow encB _ _ _ s.data.toList.toArray _ (Sort.holds_ahead encB _ n _ _ _ HH.out) (by simp))
  have HB3 : Hid (Below w.heap.size w w3) := Lib.hid (by
    rw [hw3]
    exact HB.out.grown (grown_putRow encB _ n _ _) HB.out.size (fun k e => by rw [← Option.some.inj e]; exact Nat.le_refl _))
  clear hw3 HR HH HB
  have hcb := run_convert_bytes_back (P := Try.prog) w3 22 9 5 ⟨w.heap.size, 0, none⟩ (grownCap w s.size 0 5) s.data.toList.reverse Try.underlying22 Try.underlying5 Try.underlying9 (fun j hj => by
    have h1 := (HH3.out j (by simpa using hj)).1
    rw [getElem!_pos _ j (by simpa using hj)] at h1
    rw [add_off, Nat.zero_add]
    rw [Nat.zero_add] at h1
    rw [h1]
    rfl)
  rw [List.length_reverse, show s.data.toList.length = s.size from rfl] at hcb
  have hre : (⟨s.data.toList.reverse.toArray⟩ : ByteArray) = revB s := ba_ext (by rw [revB_list])
  rw [hre] at hcb
  go_wp2_with fail
  go_ret
  exact ⟨rfl, HB3.out⟩
def RetMl (l : List ByteArray) (w : World) (e : Ending) (w' : World) : Prop := ∃ a c, e = .returned (.slice a l.length c) ∧ StrsIn w' a (mirL l) ∧ l.length ≤ c ∧ Below w.heap.size w w'
theorem mirTo_succ {l : List ByteArray} {j : Nat} (h : j < l.length) : mirTo l (j + 1) = mirTo l j ++ [revB (nthS l j)] := by
  unfold mirTo; rw [List.take_succ_eq_append_getElem h, nthS_lt h, List.map_append]; rfl
set_option maxHeartbeats 1000000 in
theorem implMirrorList_any (l : List ByteArray) (a : Option Addr) (cap : Nat) (w : World) (hL : StrsIn w a l) (hl : listP l) :
    Calls Try.prog 10 #[.slice a l.length cap] w (RetMl l w) := by
  have hl8 := hl.1.2
  have hl1 := hl.1.1
  have HLP := Lib.hid hl
  have HL := Lib.hid hL
  clear hL hl
  go_enter Try.func10, Try.ntmps10
  go_wp2_with fail
  go_loopw [3, 8] (fun v i wr => ∃ j : Nat, j ≤ l.length ∧ i = .int .i64 (j : Nat) ∧ Hid (Bld 9 1 w wr v j (strVals (mirTo l j)))) (fun _ i _ => l.length - (intOf i).toNat)
  case atStart => exact ⟨0, Nat.zero_le _, rfl, Lib.hid (Bld.nil 9 1 (Below.refl _ _))⟩
  case round =>
    obtain ⟨j, hj, rfl, HB⟩ := hrel
    by_cases hlt : j < l.length
    · obtain ⟨b, off, rfl, _, hc⟩ := (HL.out.later HB.out.2).cell hlt
      have hcj := hc j hlt
      have hs6 := (HLP.out.2 j hlt).2.1.2
      have HM := Lib.hid (fun W => implMirrorWord_any (nthS l j) W (by omega))
      have HMT := Lib.hid (mirTo_succ hlt)
      clear hc
      generalize nthS l j = x at *
      go_wp2_with fail
      refine (HM.out _).mono ?_
      rintro e w2 ⟨rfl, hb2⟩
      have HB2 := Lib.hid (HB.out.later hb2)
      clear hb2 hcj
      go_wp2_with (at_builtin; refine wpList_app1 rfl _ _ rfl Try.underlying23 Try.infoStr rfl (by decide) rfl HB2.out rfl rfl ?c1 ?c2 ?c3 ?c4)
      case c1 => simp [Value.oneCell']
      case c2 => unfold maxLen; omega
      case c3 => omega
      intro v3 w3 hb3
      have HB3 : Hid (Bld 9 1 w w3 v3 (j + 1) (strVals (mirTo l (j + 1)))) := Lib.hid (by
        rw [HMT.out]
        unfold strVals at *
        rw [List.map_append]
        exact hb3)
      clear hb3
      go_wp2_with fail
      go_roundw
      case rel => exact ⟨j + 1, by omega, by go_num, HB3⟩
      case measure => simp [intOf]; omega
    · obtain rfl : j = l.length := by omega
      have F : Hid (∀ e, (∃ a c, e = Ending.returned (.slice a l.length c) ∧ u3 = .slice a l.length c) → RetMl l w e wr) := Lib.hid (fun e ⟨a2, c2, he, hv⟩ => by
        have h1 := HB.out.1
        rw [hv] at h1
        refine ⟨a2, c2, he, ?_, ?_, HB.out.2⟩
        · have : mirTo l l.length = mirL l := by unfold mirTo mirL; rw [List.take_length]
          rw [this] at h1
          exact owns_strs h1
        · rcases h1.2 with ⟨hv, h0⟩ | ⟨g', cap', cur, hv, _, _, hn, _⟩
          · omega
          · simp only [Value.slice.injEq] at hv; omega)
      obtain ⟨av, cv, rfl⟩ : ∃ a c, u3 = .slice a l.length c := by
        rcases HB.out.1.2 with ⟨hv, h0⟩ | ⟨g', cap', cur, hv, _⟩
        · exact ⟨none, 0, by rw [hv, h0]⟩
        · exact ⟨_, cap', hv⟩
      have F2 := Lib.hid (F.out _ ⟨av, cv, rfl, rfl⟩)
      clear F HB
      go_wp2_with fail
      go_ret
      exact F2.out
end Go.Proofs.Ytmgdglghjlggnaa
