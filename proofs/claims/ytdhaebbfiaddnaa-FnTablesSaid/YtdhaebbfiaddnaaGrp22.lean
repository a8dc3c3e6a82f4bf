/-
  l08Find and MonoidOf of the reference.
-/
import Derived.Test.YtdhaebbfiaddnaaGrp21
import Derived.Maps.OwnSet
import Derived.Test.YtdhaebbfiaddnaaGrp05
import Derived.Deep.RegionHeld3
import Derived.Maps.OwnOps
import Derived.Deep.DeepCutAuto
import Derived.Test.YtdhaebbfiaddnaaGrp10
import Derived.Test.YtdhaebbfiaddnaaGrp01
import Derived.Test.YtdhaebbfiaddnaaGrp08
import Derived.Test.YtdhaebbfiaddnaaGrp13
import Derived.Test.YtdhaebbfiaddnaaGrp14
import Derived.IntWalk
namespace Go.Proofs.Ytdhaebbfiaddnaa
open Go.RowKit Go.Maps Go.WideShapes
set_option linter.unusedVariables false
/-- no reduced word goes on from there -/
def DEnt (R : List RulD) (k : Nat) (p : Lit × DataW Unit) : Prop := ∃ (e : ByteArray) (m : Nat), EndP k e ∧ m ≤ 300 ∧ p = (kl2 e (numB (m : Int)), .lit (.bool true)) ∧ paths R k m e = 0
def DMap (R : List RulD) (k : Nat) (D : DataW Unit) : Prop := ∃ es, D = .map es ∧ es.Pairwise (fun p q => p.1 ≠ q.1) ∧ ∀ p ∈ es, DEnt R k p
theorem DMap.start (R : List RulD) (k : Nat) : DMap R k (.map []) := ⟨[], rfl, List.Pairwise.nil, fun p hp => by cases hp⟩
theorem DMap.put {R : List RulD} {k : Nat} {D : DataW Unit} (h : DMap R k D) {e : ByteArray} {m : Nat} (he : EndP k e) (hm : m ≤ 300) (hp : paths R k m e = 0) : DMap R k (D.put (kl2 e (numB (m : Int))) (.lit (.bool true))) := by
  obtain ⟨es, rfl, h0, h1⟩ := h
  refine ⟨_, rfl, ?_, fun p hpm => ?_⟩
  · refine (insert_perm _ _).symm.pairwise ?_ (fun hab e => hab e.symm)
    rw [List.pairwise_cons]
    refine ⟨fun q hq e1 => ?_, h0.filter _⟩
    have h2 := (List.mem_filter.1 hq).2
    have h3 : q.1 = kl2 e (numB (m : Int)) := e1.symm
    rw [h3] at h2
    have h4 : (kl2 e (numB (m : Int))).sameKey (kl2 e (numB (m : Int))) = true := by unfold kl2 Lit.sameKey; simp
    rw [h4] at h2
    cases h2
  · rcases List.mem_cons.1 ((insert_perm _ _).mem_iff.1 hpm) with rfl | h2
    · exact ⟨e, m, he, hm, rfl, hp⟩
    · exact h1 p (List.mem_filter.1 h2).1
theorem numB_size {m : Nat} (h : m ≤ 30000) : (numB (m : Int)).size ≤ maxLen := by
  have h1 := decDigits_len (n := m) (by omega)
  have h2 : (numB (m : Int)).size = (Lib.decDigits m).length := by
    show (Lib.itoa (m : Int)).toArray.size = _
    rw [itoa_nat]; simp
  rw [h2]; unfold maxLen; omega
theorem sum_constW (l : List Wd) (c : Nat) : (l.map fun _ => c).sum = l.length * c := by
  induction l with
  | nil => simp
  | cons a l ih => simp only [List.map_cons, List.sum_cons, ih, List.length_cons, Nat.add_mul]; omega
open Classical in
theorem DMap.few {R : List RulD} {k : Nat} (hk : k ≤ 4) {D : DataW Unit} (h : DMap R k D) : Maps.size D ≤ 6575345 := by
  obtain ⟨es, rfl, h0, h1⟩ := h
  let T := (allUp k 7).flatMap fun v => (List.range 301).map fun m => (v, m)
  have hT : T.length = (allUp k 7).length * 301 := by
    show ((allUp k 7).flatMap _).length = _
    rw [List.length_flatMap]
    simp only [List.length_map, List.length_range]
    exact sum_constW _ _
  let g : Lit × DataW Unit → Wd × Nat := fun p => if h : DEnt R k p then ((Classical.choose h).data.toList, Classical.choose (Classical.choose_spec h)) else ([], 0)
  have hg : ∀ p ∈ es, ∃ (e : ByteArray) (m : Nat), EndP k e ∧ m ≤ 300 ∧ p.1 = kl2 e (numB (m : Int)) ∧ g p = (e.data.toList, m) := fun p hp => by
    have h2 := h1 p hp
    obtain ⟨h3, h4, h5, _⟩ := Classical.choose_spec (Classical.choose_spec h2)
    exact ⟨Classical.choose h2, Classical.choose (Classical.choose_spec h2), h3, h4, congrArg Prod.fst h5, by simp only [g, dif_pos h2]⟩
  have h2 := nodup_len (l := es.map g) (m := T) (by
    unfold List.Nodup
    rw [List.pairwise_map]
    refine h0.imp_of_mem fun {a b} ha hb hab e => hab ?_
    obtain ⟨e1, m1, _, _, a3, a4⟩ := hg a ha
    obtain ⟨e2, m2, _, _, b3, b4⟩ := hg b hb
    rw [a4, b4] at e
    simp only [Prod.mk.injEq] at e
    rw [a3, b3, ba_ext0 e.1, e.2]) (fun x hx => by
    obtain ⟨p, hp, rfl⟩ := List.mem_map.1 hx
    obtain ⟨e, m, c1, c2, _, c4⟩ := hg p hp
    rw [c4]
    exact List.mem_flatMap.2 ⟨e.data.toList, allUp_has c1.1 c1.2, List.mem_map.2 ⟨m, List.mem_range.2 (by omega), rfl⟩⟩)
  have h3 := allUp_len hk 7
  have h4 : (4 : Nat) ^ (7 + 1) = 65536 := by decide
  rw [List.length_map, hT] at h2
  rw [Maps.size_eq]
  omega
end Go.Proofs.Ytdhaebbfiaddnaa
namespace Go.Proofs.Ytdhaebbfiaddnaa
open Go.RowKit Go.Maps
set_option linter.unusedVariables false
theorem plainB_inv {P : Program} {e : TypeId} (he : P.underlying e = some .bool) {v : Value} {d : DataW Unit} {ps : List MemPlace} (h : plainElem (H := Unit) P e v = some (d, ps)) : ∃ c, v = .bool c ∧ d = .lit (.bool c) := by
  unfold plainElem at h
  rw [he] at h
  cases v <;> simp at h
  exact ⟨_, rfl, h.1.symm⟩
theorem plainBool_inv {v : Value} {d : DataW Unit} {ps : List MemPlace} (h : plainElem (H := Unit) Try.prog 4 v = some (d, ps)) : ∃ c, v = .bool c ∧ d = .lit (.bool c) := plainB_inv Try.underlying4 h
/-- Go's > at strings -/
theorem gt_less : ∀ (a b : Wd), (!Op.bytesLess a b && !(a == b)) = Op.bytesLess b a
  | [], [] => rfl
  | [], b :: bs => by simp [Op.bytesLess]
  | a :: aa, [] => by simp [Op.bytesLess]
  | a :: aa, b :: bs => by
    have ih := gt_less aa bs
    rcases Nat.lt_trichotomy a.toNat b.toNat with h | h | h
    · have h1 : a < b := UInt8.lt_iff_toNat_lt.2 h
      rw [less_head h1, less_head_no h1]; rfl
    · have h1 : a = b := UInt8.toNat_inj.1 h
      subst h1
      have h2 : ¬ a < a := UInt8.lt_irrefl a
      simp only [Op.bytesLess, decide_eq_false h2, Bool.false_or, beq_self_eq_true, Bool.true_and, List.cons_beq_cons]
      exact ih
    · have h1 : b < a := UInt8.lt_iff_toNat_lt.2 h
      have h2 : (a == b) = false := by
        rw [beq_eq_false_iff_ne]
        intro e
        subst e
        exact UInt8.lt_irrefl _ h1
      rw [less_head h1, less_head_no h1]
      simp [h2]
theorem zeroBoolG (w : World) : (zeroValue 4).run Try.prog w = .ok (.bool false) w := by kernel_rfl
theorem firstF_zero (R : List RulD) (k : Nat) (bound w0 : ByteArray) : firstF R k bound 0 w0 = if ltB bound w0 = true then some w0 else none := by
  unfold firstF wordsF
  rw [List.find?_singleton]
theorem extract_take (v : ByteArray) (n : Nat) : (v.extract 0 n).data.toList = v.data.toList.take n := by
  rw [ByteArray.data_extract, Array.toList_extract, List.extract_eq_take_drop]
  simp
/-- the letters of a word -/
def LetW (k : Nat) (e : ByteArray) : Prop := ∀ y ∈ e.data.toList, ∃ x, x < k ∧ y = lt97 x
theorem LetW.on {k : Nat} {e : ByteArray} (h : LetW k e) {x : Nat} (hx : x < k) : LetW k (e ++ letterN x) := fun y hy => by
  rw [app_lt] at hy
  rcases List.mem_append.1 hy with h1 | h1
  · exact h y h1
  · exact ⟨x, hx, by simpa using h1⟩
theorem LetW.cut {R : List RulD} {k : Nat} (G : SysG R k) {e : ByteArray} (h : LetW k e) : EndP k (cutR R e) :=
  ⟨Nat.le_trans (cutR_size _ _) (keep7 G), fun y hy => h y ((cut_suf R e).subset hy)⟩
end Go.Proofs.Ytdhaebbfiaddnaa
namespace Go.Proofs.Ytdhaebbfiaddnaa
open Go.RowKit Go.Maps
set_option linter.unusedVariables false
/-- the bound behind i words -/
def bndW (L : List ByteArray) : Nat → ByteArray
  | 0 => ⟨#[]⟩
  | i + 1 => nthS L i
theorem ltB_irr (a : ByteArray) : ltB a a = false := by
  unfold ltB
  rw [← gt_less]
  simp
theorem ltB_asymm {a b : ByteArray} (h : ltB a b = true) : ltB b a = false := by
  unfold ltB at *
  rw [← gt_less, h]
  rfl
theorem nthS_get {L : List ByteArray} {i : Nat} (h : i < L.length) : nthS L i = L[i] := by
  unfold nthS; rw [List.getD_eq_getElem?_getD, List.getElem?_eq_getElem h]; rfl
/-- in a rising list, the first one above one is the next one -/
theorem rise_next {L : List ByteArray} (hp : L.Pairwise (fun a b => ltB a b = true)) {i : Nat} (hi : i + 1 < L.length) : (L.find? fun u => ltB (nthS L i) u) = some (nthS L (i + 1)) := by
  rw [List.pairwise_iff_getElem] at hp
  rw [List.find?_eq_some_iff_getElem]
  rw [nthS_get hi, nthS_get (show i < L.length by omega)]
  refine ⟨hp i (i + 1) (by omega) hi (by omega), i + 1, hi, rfl, fun j hj => ?_⟩
  by_cases e : j = i
  · subst e
    rw [ltB_irr]; rfl
  · rw [ltB_asymm (hp j i (by omega) (by omega) (by omega))]; rfl
theorem firstF_at {R : List RulD} {k n : Nat} (hk : k ≤ 4) (hn : 0 < n) {i : Nat} (hi : i < (wordsF R k n ⟨#[]⟩).length) : firstF R k (bndW (wordsF R k n ⟨#[]⟩) i) n ⟨#[]⟩ = some (nthS (wordsF R k n ⟨#[]⟩) i) := by
  cases i with
  | succ i => exact rise_next (wordsF_rise hk n ⟨#[]⟩) hi
  | zero =>
    unfold firstF
    rw [List.find?_eq_some_iff_getElem, nthS_get hi]
    refine ⟨?_, 0, hi, rfl, fun j hj => by omega⟩
    have hs := wordsF_size R k n ⟨#[]⟩ _ (List.getElem_mem hi)
    have h0 : (⟨#[]⟩ : ByteArray).size = 0 := rfl
    have hsz : ∀ z : ByteArray, z.data.toList.length = z.size := fun z => rfl
    show Op.bytesLess [] _ = true
    refine less_nil fun e => ?_
    have h1 := hsz (wordsF R k n ⟨#[]⟩)[0]
    rw [e] at h1
    simp only [List.length_nil] at h1
    omega
theorem bndW_size {R : List RulD} {k n : Nat} {i : Nat} (hi : i ≤ (wordsF R k n ⟨#[]⟩).length) : (bndW (wordsF R k n ⟨#[]⟩) i).size = 0 ∨ (bndW (wordsF R k n ⟨#[]⟩) i).size = n := by
  cases i with
  | zero => exact .inl rfl
  | succ i =>
    right
    show (nthS _ i).size = n
    rw [nthS_get (show i < _ by omega)]
    have hs := wordsF_size R k n ⟨#[]⟩ _ (List.getElem_mem (show i < _ by omega))
    have h0 : (⟨#[]⟩ : ByteArray).size = 0 := rfl
    omega
/-- a row lies apart from the reader and its map -/
def NeB (v : Value) (p b : Nat) : Prop := ∀ k, v.ownBlock = some k → k ≠ p ∧ k ≠ b
theorem owns_strs1 {w : World} {base : Nat} {T : TypeId} {a : Option Addr} {n m cap : Nat} {l : List ByteArray} (h : w.ownsRow base T 1 (.slice a m cap) n (strVals l)) : StrsIn w a l := owns_cells h
theorem take_nth {L : List ByteArray} {i : Nat} (h : i < L.length) : L.take (i + 1) = L.take i ++ [nthS L i] := by
  rw [List.take_succ_eq_append_getElem h, nthS_get h]
theorem nth_take {L : List ByteArray} {i : Nat} (h : i < L.length) : nthS (L.take (i + 1)) i = nthS L i := by
  rw [nthS_get (by rw [List.length_take]; omega), nthS_get h, List.getElem_take]
end Go.Proofs.Ytdhaebbfiaddnaa
namespace Go.Proofs.Ytdhaebbfiaddnaa
open Go.RowKit Go.Maps
set_option linter.unusedVariables false
end Go.Proofs.Ytdhaebbfiaddnaa
namespace Go.Proofs.Ytdhaebbfiaddnaa
open Go.RowKit
set_option linter.unusedVariables false
/-- what AllReduced is -/
def AllIs (k : Int) (R : List RulD) (L : List ByteArray) (f : Bool) : Prop :=
  (¬ (∃ c, CntIs k R c ∧ 0 ≤ c ∧ c ≤ 256) ∧ L = [] ∧ f = false) ∨
  ∃ (kn h : Nat), k = (kn : Int) ∧ HtIs R kn ⟨#[]⟩ (h : Int) ∧ (∃ c, CntIs k R c ∧ 0 ≤ c ∧ c ≤ 256) ∧ L = outTo R kn (h + 1) ∧ f = true ∧ L.length ≤ 256
theorem AllIs.few {k : Int} {R : List RulD} {L : List ByteArray} {f : Bool} (h : AllIs k R L f) : L.length ≤ 256 := by
  rcases h with ⟨_, rfl, _⟩ | ⟨_, _, _, _, _, _, _, h⟩
  · simp
  · exact h
theorem AllIs.uniq {k : Int} {R : List RulD} {L L' : List ByteArray} {f f' : Bool} (a : AllIs k R L f) (b : AllIs k R L' f') : L = L' ∧ f = f' := by
  rcases a with ⟨a1, a2, a3⟩ | ⟨kn, h, a1, a2, a3, a4, a5, _⟩ <;> rcases b with ⟨b1, b2, b3⟩ | ⟨kn', h', b1, b2, b3, b4, b5, _⟩
  · exact ⟨by rw [a2, b2], by rw [a3, b3]⟩
  · exact absurd b3 a1
  · exact absurd a3 b1
  · obtain rfl : kn = kn' := by omega
    have e := a2.uniq b2
    obtain rfl : h = h' := by omega
    exact ⟨by rw [a4, b4], by rw [a5, b5]⟩
/-- what AllReduced hands back -/
def RetAF (k : Int) (R : List RulD) (w : World) (e : Ending) (w' : World) : Prop :=
  ∃ (L : List ByteArray) (f : Bool) (a : Option Addr) (cap : Nat), AllIs k R L f ∧ e = .returned (.tuple #[.slice a L.length cap, .bool f]) ∧ w'.ownsRow w.heap.size 9 1 (.slice a L.length cap) L.length (strVals L) ∧ Below w.heap.size w w'
theorem RetAll.fn {k : Int} {R : List RulD} {w : World} {e : Ending} {w' : World} (h : RetAll k R w e w') : RetAF k R w e w' := by
  rcases h with ⟨h1, rfl, hb⟩ | ⟨kn, h, h1, hG, h2, h3, h4, a, cap, rfl, ho, hb⟩
  · exact ⟨[], false, none, 0, .inl ⟨h1, rfl, rfl⟩, rfl, World.ownsRow_nil _ _ _ _, hb⟩
  · exact ⟨_, true, a, cap, .inr ⟨kn, h, h1, h2, h4, rfl, rfl, by rw [outTo_len hG.ne]; exact h3⟩, rfl, ho, hb⟩
theorem specAllReduced_fn (k : Int) (R : List RulD) (a : Option Addr) (cap : Nat) (w : World) (hl : RulesIn w a R) (hlen : R.length ≤ 2 ^ 40) (hz : SzR R) :
    Calls Try.prog 48 #[.agg #[.int .i64 k, .slice a R.length cap]] w (RetAF k R w) := (specAllReduced_any k R a cap w hl hlen hz).mono fun _ _ h => h.fn
end Go.Proofs.Ytdhaebbfiaddnaa
namespace Go.Proofs.Ytdhaebbfiaddnaa
open Go.RowKit
set_option linter.unusedVariables false
def intVals (l : List Int) : List Value := l.map (Value.int .i64)
/-- the numbers below j with a property -/
def listTo (f : Nat → Bool) (j : Nat) : List Int := ((List.range j).filter f).map Int.ofNat
theorem listTo_yes {f : Nat → Bool} {j : Nat} (h : f j = true) : listTo f (j + 1) = listTo f j ++ [(j : Int)] := by
  simp [listTo, List.range_succ, h]
theorem listTo_no {f : Nat → Bool} {j : Nat} (h : f j = false) : listTo f (j + 1) = listTo f j := by
  simp [listTo, List.range_succ, h]
theorem listTo_len (f : Nat → Bool) (j : Nat) : (listTo f j).length ≤ j := by
  unfold listTo
  rw [List.length_map]
  exact Nat.le_trans (List.length_filter_le _ _) (by simp)
end Go.Proofs.Ytdhaebbfiaddnaa
namespace Go.Proofs.Ytdhaebbfiaddnaa
open Go.RowKit
set_option linter.unusedVariables false
theorem letB_lt97 {k x : Nat} (hx : x < k) (hk : k ≤ 4) : letB (k : Int) (lt97 x) = true := by
  have h : (lt97 x).toNat = 97 + x := by unfold lt97; simp; omega
  unfold letB inB
  rw [h]
  simp
  omega
theorem wordsF_ok {R : List RulD} {k : Nat} (hk : k ≤ 4) : ∀ (m : Nat) (w : ByteArray), okLt (k : Int) w.data.toList → ∀ u ∈ wordsF R k m w, okLt (k : Int) u.data.toList
  | 0, w, hw, u, hu => by rw [List.mem_singleton.1 hu]; exact hw
  | m + 1, w, hw, u, hu => by
    obtain ⟨x, hx, h2⟩ := List.mem_flatMap.1 hu
    split at h2
    · refine wordsF_ok hk m _ ?_ u h2
      intro y hy
      rw [app_lt] at hy
      rcases List.mem_append.1 hy with hy | hy
      · exact hw y hy
      · rw [List.mem_singleton.1 hy]
        exact letB_lt97 (List.mem_range.1 hx) hk
    · cases h2
theorem mem_outTo {R : List RulD} {k i : Nat} {u : ByteArray} (h : u ∈ outTo R k i) : ∃ m, m < i ∧ u ∈ wordsF R k m ⟨#[]⟩ := by
  unfold outTo at h
  obtain ⟨m, hm, h2⟩ := List.mem_flatMap.1 h
  exact ⟨m, List.mem_range.1 hm, h2⟩
/-- the words and the table are made -/
def GoM (k : Int) (R : List RulD) : Prop := ComplP k R ∧ (∃ c, CntIs k R c ∧ 1 ≤ c ∧ c ≤ 40) ∧ ∃ h, LngIs k R h ∧ h ≤ 8
theorem CntIs.one {k : Int} {R : List RulD} {c : Int} (h : CntIs k R c) (h0 : 0 ≤ c) : 1 ≤ c := by
  obtain ⟨l, _, h2⟩ := h
  rcases h2 with ⟨_, rfl⟩ | ⟨h1, rfl⟩
  · omega
  · have := pSum_at R k.toNat (show 0 < l.toNat + 1 by omega)
    have e : paths R k.toNat 0 ⟨#[]⟩ = 1 := rfl
    omega
/-- what is known of the words -/
structure MonW (k : Int) (L : List ByteArray) : Prop where
  few : L.length ≤ 40
  word : ∀ u ∈ L, wordOkB k u = true ∧ u.size ≤ 8
theorem GoM.words {k : Int} {R : List RulD} (h : GoM k R) {L : List ByteArray} (hL : AllIs k R L true) : MonW k L := by
  obtain ⟨hc, ⟨c, hc1, hc2, hc3⟩, hg, hh1, hh2⟩ := h
  rcases hL with ⟨_, _, h3⟩ | ⟨kn, h, rfl, h2, _, rfl, _, _⟩
  · cases h3
  · have G := sysG_of hc.1
    rcases hh1 with ⟨h1, _⟩ | ⟨_, h4⟩
    · exact absurd hc.1 h1
    · rw [Int.toNat_natCast] at h4
      have e := h4.uniq h2
      have hk := hc.1.1.1.1
      obtain ⟨l, hl1, hl2⟩ := hc1
      rcases hl1 with ⟨h5, _⟩ | ⟨_, h5⟩
      · exact absurd hc.1 h5
      · rw [Int.toNat_natCast] at h5 hl2
        have e2 := h5.uniq h2
        subst e2
        refine ⟨?_, fun u hu => ?_⟩
        · rw [outTo_len G.ne]
          rcases hl2 with ⟨h6, _⟩ | ⟨_, rfl⟩
          · omega
          · rw [Int.toNat_natCast] at hc3
            omega
        · obtain ⟨m, hm, hu2⟩ := mem_outTo hu
          have hz := wordsF_size R kn m _ u hu2
          have e0 : (⟨#[]⟩ : ByteArray).size = 0 := rfl
          refine ⟨wordOk_iff.2 ⟨hk, by omega, wordsF_ok (by omega) m _ (fun y hy => by cases hy) u hu2⟩, by omega⟩
theorem word_app {k : Int} {u v : ByteArray} (hu : wordOkB k u = true) (hv : wordOkB k v = true) (h : u.size + v.size ≤ 16) : wordOkB k (u ++ v) = true := by
  obtain ⟨a1, a2, a3⟩ := wordOk_iff.1 hu
  obtain ⟨_, _, b3⟩ := wordOk_iff.1 hv
  refine wordOk_iff.2 ⟨a1, by rw [ByteArray.size_append]; exact h, fun y hy => ?_⟩
  rw [ByteArray.data_append, Array.toList_append] at hy
  rcases List.mem_append.1 hy with hy | hy
  · exact a3 y hy
  · exact b3 y hy
theorem MonW.pair {k : Int} {L : List ByteArray} (h : MonW k L) {i j : Nat} (hi : i < L.length) (hj : j < L.length) : wordOkB k (nthS L i ++ nthS L j) = true ∧ (nthS L i).size + (nthS L j).size ≤ 16 := by
  have h1 := h.word (nthS L i) (by rw [nthS_lt hi]; exact List.getElem_mem hi)
  have h2 := h.word (nthS L j) (by rw [nthS_lt hj]; exact List.getElem_mem hj)
  exact ⟨word_app h1.1 h2.1 (by omega), by omega⟩
/-- what MonoidOf is: words, table, whether it is made -/
def MonIs (k : Int) (R : List RulD) (L : List ByteArray) (P : List Int) (f : Bool) : Prop := (¬ GoM k R ∧ L = [] ∧ P = [] ∧ f = false) ∨ (GoM k R ∧ AllIs k R L true ∧ P = prodF R L ∧ f = true)
theorem MonIs.uniq {k : Int} {R : List RulD} {L L' : List ByteArray} {P P' : List Int} {f f' : Bool} (a : MonIs k R L P f) (b : MonIs k R L' P' f') : L = L' ∧ P = P' ∧ f = f' := by
  rcases a with ⟨a1, rfl, rfl, rfl⟩ | ⟨a1, a2, rfl, rfl⟩ <;> rcases b with ⟨b1, rfl, rfl, rfl⟩ | ⟨b1, b2, rfl, rfl⟩
  · exact ⟨rfl, rfl, rfl⟩
  · exact absurd b1 a1
  · exact absurd a1 b1
  · obtain ⟨rfl, _⟩ := a2.uniq b2
    exact ⟨rfl, rfl, rfl⟩
theorem MonIs.few {k : Int} {R : List RulD} {L : List ByteArray} {P : List Int} {f : Bool} (h : MonIs k R L P f) : L.length ≤ 40 ∧ P.length ≤ 1640 := by
  rcases h with ⟨_, rfl, rfl, _⟩ | ⟨h1, h2, rfl, _⟩
  · exact ⟨by simp, by simp⟩
  · have h3 := (h1.words h2).few
    refine ⟨h3, ?_⟩
    rw [← prodTo_done]
    exact prodTo_few h3 (Nat.le_refl _) (Nat.zero_le _)
/-- what MonoidOf hands back -/
def RetMon (k : Int) (R : List RulD) (w : World) (e : Ending) (w' : World) : Prop :=
  ∃ (L : List ByteArray) (P : List Int) (f : Bool) (aP aL : Option Addr) (cP cL : Nat), MonIs k R L P f ∧ e = .returned (.tuple #[.agg #[.int .i64 (L.length : Nat), .slice aP P.length cP], .slice aL L.length cL, .bool f]) ∧
    w'.ownsRow w.heap.size 3 1 (.slice aP P.length cP) P.length (intVals P) ∧ w'.ownsRow w.heap.size 9 1 (.slice aL L.length cL) L.length (strVals L) ∧ Below w.heap.size w w'
end Go.Proofs.Ytdhaebbfiaddnaa
namespace Go.Proofs.Ytdhaebbfiaddnaa
open Go.RowKit
set_option linter.unusedVariables false
set_option maxHeartbeats 400000 in
theorem l08Find_any (v : ByteArray) (l : List ByteArray) (a : Option Addr) (cap : Nat) (w : World) (hl : StrsIn w a l) (hlen : l.length ≤ 2 ^ 47) :
    Calls Try.prog 50 #[.slice a l.length cap, .string v] w fun e w' => e = .returned (.int .i64 (idxB l v)) ∧ Below w.heap.size w w' := by
  have HL := Lib.hid hl
  clear hl
  go_enter Try.func50, Try.ntmps50
  go_wp2_with fail
  go_loopw [9] (fun i wr => ∃ j : Nat, j ≤ l.length ∧ i = .int .i64 j ∧ Hid (idxTo l v j = none) ∧ wr = w) (fun i _ => l.length - (intOf i).toNat)
  case atStart => exact ⟨0, Nat.zero_le _, rfl, Lib.hid (idxTo_zero _ _), rfl⟩
  case round =>
    obtain ⟨j, hj, rfl, H, rfl⟩ := hrel
    by_cases hlt : j < l.length
    · obtain ⟨b, off, rfl, hb, hc⟩ := HL.out.cell hlt
      have h1 : wr.cell? ⟨b, off + j, none⟩ = some (.string (nthS l j)) := hc j hlt
      have HS1 : Hid (((nthS l j).toList == v.toList) = false → idxTo l v (j + 1) = none) := Lib.hid (fun hp => idxTo_succ H.out hp)
      have HS2 : Hid (((nthS l j).toList == v.toList) = true → idxB l v = (j : Int)) := Lib.hid (fun hp => idxB_at H.out hlt hp)
      clear hc
      generalize nthS l j = u at *
      cases hp : (u.toList == v.toList)
      · have F := Lib.hid (HS1.out hp)
        go_wp2_with fail
        go_roundw
        case rel => exact ⟨j + 1, by omega, by go_num, F, trivial⟩
        case measure => simp [intOf]; omega
      · have F := Lib.hid (HS2.out hp)
        go_wp2_with fail
        go_ret
        exact ⟨ret_int F.out.symm, Below.refl _ _⟩
    · have F := Lib.hid (idxB_none H.out hlt hj)
      go_wp2_with fail
      go_ret
      exact ⟨ret_int F.out.symm, Below.refl _ _⟩
theorem RetMon.no {k : Int} {R : List RulD} {w w' : World} (h : ¬ GoM k R) (hb : Below w.heap.size w w') : RetMon k R w (.returned (.tuple #[.agg #[.int .i64 0, .slice none 0 0], .slice none 0 0, .bool false])) w' :=
  ⟨[], [], false, none, none, 0, 0, .inl ⟨h, rfl, rfl, rfl⟩, rfl, World.ownsRow_nil _ _ _ _, World.ownsRow_nil _ _ _ _, hb⟩
/-- the table that is being made, at block g -/
def MonSt (w wr : World) (g : Nat) (L : List ByteArray) (xs : List Int) : Prop := ∃ v, Rec2 25 3 1 w wr g (.int .i64 (L.length : Nat)) v xs.length (intVals xs)
theorem intVals_one (x : Int) (l : List Int) : intVals (l ++ [x]) = intVals l ++ [.int .i64 x] := by simp [intVals]
set_option maxRecDepth 100000 in
set_option maxHeartbeats 4000000 in
theorem specMonoidOf_any (k : Int) (R : List RulD) (a : Option Addr) (cap : Nat) (w : World) (hl : RulesIn w a R) (hlen : R.length ≤ 2 ^ 40) (hz : SzR R) :
    Calls Try.prog 30 #[.agg #[.int .i64 k, .slice a R.length cap]] w (RetMon k R w) := by
  have HIC := Lib.hid (fun W h => specIsComplete_any k R a cap W h hlen hz)
  have HCA := Lib.hid (fun W h => specCountAll_any k R a cap W h hlen hz)
  have HLR := Lib.hid (fun W h => specLongestReduced_any k R a cap W h hlen hz)
  have HAR := Lib.hid (fun W h => specAllReduced_fn k R a cap W h hlen hz)
  have HNF := Lib.hid (fun w0 W h hs hw => specNormalForm_ok k R a cap w0 W h hs hw)
  have HL := Lib.hid hl
  have e1 : (w.alloc (.cells #[.int .i64 k, .slice a R.length cap] 52)).heap.size = w.heap.size + 1 := by simp
  have HW1 : Hid (Below w.heap.size w ((w.alloc (.cells #[.int .i64 k, .slice a R.length cap] 52)).alloc (.cells #[.int .i64 0, .slice none 0 0] 25))) := Lib.hid (Below.now (alloc_belowS w _) (alloc_belowS _ _))
  have HBX := Lib.hid (fun W2 (h : Below ((w.alloc (.cells #[.int .i64 k, .slice a R.length cap] 52)).alloc (.cells #[.int .i64 0, .slice none 0 0] 25)).heap.size ((w.alloc (.cells #[.int .i64 k, .slice a R.length cap] 52)).alloc (.cells #[.int .i64 0, .slice none 0 0] 25)) W2) => And.intro (box_two (Below.now (alloc_belowS (w.alloc (.cells #[.int .i64 k, .slice a R.length cap] 52)) _) h)) (box_facts h))
  rw [e1] at HBX
  have HZ : Hid (w.heap.size + 1 < ((w.alloc (.cells #[.int .i64 k, .slice a R.length cap] 52)).alloc (.cells #[.int .i64 0, .slice none 0 0] 25)).heap.size) := Lib.hid (by simp)
  clear hl hz e1
  go_enter Try.func30, Try.ntmps30
  go_wp2_with fail
  generalize (w.alloc (.cells #[.int .i64 k, .slice a R.length cap] 52)).alloc (.cells #[.int .i64 0, .slice none 0 0] 25) = w1 at *
  refine (HIC.out _ (HL.out.later HW1.out)).mono ?_
  rintro e w2 ⟨bb, hbb, rfl, hb2⟩
  have HBB := Lib.hid hbb
  have HB2 := Lib.hid hb2
  obtain ⟨⟨s0, s1⟩, ⟨u0, u1⟩, z0, z1⟩ := HBX.out _ hb2
  clear hbb hb2
  cases bb
  · have F : Hid (RetMon k R w (.returned (.tuple #[.agg #[.int .i64 0, .slice none 0 0], .slice none 0 0, .bool false])) ((w2.setCell ⟨w.heap.size + 1, 0, none⟩ (.int .i64 0)).setCell ⟨w.heap.size + 1, 1, none⟩ (.slice none 0 0))) := Lib.hid (RetMon.no (fun h => by have := HBB.out.2 h.1; cases this) (((Below.now HW1.out HB2.out).setCell (by simp; try omega) _).setCell (by simp; try omega) _))
    go_wp2_with fail
    refine bodyPost_ret (v := .tuple #[.agg #[.int .i64 0, .slice none 0 0], .slice none 0 0, .bool false]) ?_ rfl F.out
    simp [results, Try.results30, go_sem, u0, u1]
  · have HCP := Lib.hid (HBB.out.1 rfl)
    go_wp2_with fail
    refine (HCA.out _ (HL.out.later (Below.now HW1.out HB2.out))).mono ?_
    rintro e w3 ⟨c, hc, rfl, hb3⟩
    have HC := Lib.hid hc
    have HB3 := Lib.hid (Below.now HB2.out hb3)
    have HR0 := Lib.hid (fun W => l01In_any c 1 40 W)
    clear hc hb3 s0 s1 u0 u1 z0 z1 HB2 HBB
    obtain ⟨⟨s0, s1⟩, ⟨u0, u1⟩, z0, z1⟩ := HBX.out _ HB3.out
    cases hin : inB c 1 40
    · have HIN := Lib.hid hin
      rw [hin] at HR0
      have F : Hid (RetMon k R w (.returned (.tuple #[.agg #[.int .i64 0, .slice none 0 0], .slice none 0 0, .bool false])) ((w3.setCell ⟨w.heap.size + 1, 0, none⟩ (.int .i64 0)).setCell ⟨w.heap.size + 1, 1, none⟩ (.slice none 0 0))) := Lib.hid (RetMon.no (fun h => by
        obtain ⟨_, ⟨c2, h1, h2, h3⟩, _⟩ := h
        obtain rfl := h1.uniq HC.out
        have h4 := HIN.out
        unfold inB at h4
        simp at h4
        omega) (((Below.now HW1.out HB3.out).setCell (by simp; try omega) _).setCell (by simp; try omega) _))
      clear hin
      go_wp2_with (go_at_call 45; refine (HR0.out _).mono ?_; rintro e w' ⟨rfl, rfl⟩)
      refine bodyPost_ret (v := .tuple #[.agg #[.int .i64 0, .slice none 0 0], .slice none 0 0, .bool false]) ?_ rfl F.out
      simp [results, Try.results30, go_sem, u0, u1]
    · have HIN := Lib.hid hin
      rw [hin] at HR0
      clear hin
      go_wp2_with (go_at_call 45; refine (HR0.out _).mono ?_; rintro e w' ⟨rfl, rfl⟩)
      refine (HLR.out _ (HL.out.later (Below.now HW1.out HB3.out))).mono ?_
      rintro e w4 ⟨h, hh, rfl, hb4⟩
      have HH := Lib.hid hh
      have HB4 := Lib.hid (Below.now HB3.out hb4)
      clear hh hb4 s0 s1 u0 u1 z0 z1 HR0
      obtain ⟨⟨s0, s1⟩, ⟨u0, u1⟩, z0, z1⟩ := HBX.out _ HB4.out
      by_cases h8 : 8 < h
      · have F : Hid (RetMon k R w (.returned (.tuple #[.agg #[.int .i64 0, .slice none 0 0], .slice none 0 0, .bool false])) ((w4.setCell ⟨w.heap.size + 1, 0, none⟩ (.int .i64 0)).setCell ⟨w.heap.size + 1, 1, none⟩ (.slice none 0 0))) := Lib.hid (RetMon.no (fun hg => by
          obtain ⟨_, _, h2, h3, h4⟩ := hg
          obtain rfl := h3.uniq HH.out
          omega) (((Below.now HW1.out HB4.out).setCell (by simp; try omega) _).setCell (by simp; try omega) _))
        go_wp2_with fail
        refine bodyPost_ret (v := .tuple #[.agg #[.int .i64 0, .slice none 0 0], .slice none 0 0, .bool false]) ?_ rfl F.out
        simp [results, Try.results30, go_sem, u0, u1]
      · have HGO : Hid (GoM k R) := Lib.hid ⟨HCP.out, ⟨c, HC.out, inB_bounds HIN.out⟩, h, HH.out, by omega⟩
        go_wp2_with fail
        refine (HAR.out _ (HL.out.later (Below.now HW1.out HB4.out))).mono ?_
        rintro e w5 ⟨L, f, aL, cL, hal, rfl, hol, hb5⟩
        obtain rfl : f = true := by
          rcases hal with ⟨h1, _⟩ | ⟨_, _, _, _, _, _, h1, _⟩
          · exact absurd ⟨c, HC.out, by have := inB_bounds HIN.out; omega, by have := inB_bounds HIN.out; omega⟩ h1
          · exact h1
        have HAL := Lib.hid hal
        have HMW := Lib.hid (HGO.out.words hal)
        have hlen40 := HMW.out.few
        have HB5 := Lib.hid (Below.now HB4.out hb5)
        have HOL : Hid (w5.ownsRow (w.heap.size + 2) 9 1 (.slice aL L.length cL) L.length (strVals L)) := Lib.hid (owns_mono hol (by have := HB4.out.size; have := HZ.out; omega))
        have HSL : Hid (StrsIn w5 aL L) := Lib.hid (owns_cells hol)
        have HST : Hid (MonSt w5 (w5.alloc (.cells #[.int .i64 (L.length : Nat), .slice none 0 0] 25)) w5.heap.size L (prodTo R L 0 0)) := Lib.hid ⟨_, Rec2.start _ _ 1 (Below.refl _ _) _⟩
        clear hal hol hb5 s0 s1 u0 u1 z0 z1 h8 HB3 HB4
        go_wp2_with fail
        generalize w5.alloc (.cells #[.int .i64 (L.length : Nat), .slice none 0 0] 25) = w6 at *
        generalize hg : w5.heap.size = g at *
        have HG := Lib.hid hg
        clear hg
        go_loopw [39] (fun vi wr => ∃ i : Nat, i ≤ L.length ∧ vi = .int .i64 i ∧ Hid (MonSt w5 wr g L (prodTo R L i 0))) (fun vi _ => L.length - (intOf vi).toNat)
        case atStart => exact ⟨0, Nat.zero_le _, rfl, HST⟩
        case round =>
          clear HST
          obtain ⟨i, hi, rfl, HST⟩ := hrel
          obtain ⟨vt, HR⟩ := HST.out
          have HRH := Lib.hid HR
          have hbw := HR.below
          by_cases hlt : i < L.length
          · obtain ⟨b, off, rfl, hb, hc⟩ := (HSL.out.later hbw).cell hlt
            have c1 := hc i hlt
            clear hc hbw HR
            have HWP : Hid (∀ j, j < L.length → wordOkB k (nthS L i ++ nthS L j) = true ∧ (nthS L i).size + (nthS L j).size ≤ 16) := Lib.hid (fun j hj => HMW.out.pair hlt hj)
            have HPS := Lib.hid (fun j => prodTo_step R L i j)
            generalize hu : nthS L i = u at *
            have HU := Lib.hid hu
            clear hu
            go_wp2_with fail
            generalize hW : wr = wr0 at *
            clear hW
            go_loopw [45] (fun vj wr => ∃ j : Nat, j ≤ L.length ∧ vj = .int .i64 j ∧ Hid (MonSt w5 wr g L (prodTo R L i j))) (fun vj _ => L.length - (intOf vj).toNat)
            case atStart => exact ⟨0, Nat.zero_le _, rfl, HST⟩
            case round =>
              clear HST HRH
              obtain ⟨j, hj, rfl, HST⟩ := hrel
              obtain ⟨v0, HR⟩ := HST.out
              have HRH := Lib.hid HR
              have hbw := HR.below
              by_cases hjl : j < L.length
              · obtain ⟨b2, off2, ha2, hb2, hc2⟩ := (HSL.out.later hbw).cell hjl
                cases ha2
                have c2 := hc2 j hjl
                obtain ⟨hwok, hsz⟩ := HWP.out j hjl
                have HWO := Lib.hid hwok
                obtain ⟨⟨s0, s1⟩, _, _, _⟩ := HBX.out wr (Below.now HB5.out hbw)
                have hx1 : ¬ 9223372036854775807 < u.size + (nthS L j).size := by omega
                have HNC := Lib.hid (HNF.out (u ++ nthS L j) wr (HL.out.later (Below.now HW1.out (Below.now HB5.out hbw))) HCP.out.1 hwok)
                have HP1 := Lib.hid (HPS.out j)
                clear hc2 hbw HR hwok
                generalize nthS L j = y at *
                go_wp2_with fail
                refine HNC.out.mono ?_
                rintro e w7 ⟨x, hx, rfl, hb7⟩
                obtain rfl := nfC_eq hx
                have HR7 := Lib.hid (HRH.out.later hb7)
                obtain ⟨_, t1, _, f1⟩ := HR7.out.facts
                have HS7 := Lib.hid (fun W (hW : Below w7.heap.size w7 W) => HSL.out.later (Below.now HR7.out.below hW))
                have hgl := HR7.out.lt
                have hxl := prodTo_few hlen40 (R := R) hi hj
                clear hx hb7 HRH s0 s1 c1 c2 HNC HWO
                generalize nfC R (u ++ y) = x at *
                have HFD := Lib.hid (fun W h => l08Find_any x L (some ⟨b, off, none⟩) cL W h (by omega))
                generalize idxB L x = z at *
                have HXS : Hid (∃ xs, xs = prodTo R L i j) := Lib.hid ⟨_, rfl⟩
                generalize prodTo R L i j = xs at *
                have M1 : Hid (∀ u ∈ [Value.int .i64 z], u.oneCell' = true) := Lib.hid (fun u hu => by rw [List.mem_singleton.1 hu]; rfl)
                have N3 : Hid (xs.length + 1 ≤ maxLen) := Lib.hid (by unfold maxLen; omega)
                have N4 : Hid ((xs.length + 1) * 8 ≤ 140737488355328) := Lib.hid (by omega)
                clear hxl HXS
                go_wp2_with fail
                have kr := Below.refl w7.heap.size w7
                go_region_law (first
                  | (go_simp; go_at_call 50; refine (HFD.out _ (HS7.out _ (by repeat (first | exact kr | refine Below.drew ?_ | refine below_drewN ?_ _)))).mono ?_; rintro e w8 ⟨rfl, hb8⟩; replace kr : Below w7.heap.size w7 w8 := Below.now (by repeat (first | exact kr | refine Below.drew ?_ | refine below_drewN ?_ _)) hb8; have HR8 := Lib.hid (HR7.out.later kr); have q0 := HR8.out.facts.2.1; have q2 : ∀ ob, (w8.alloc ob).cell? ⟨g, 1, none⟩ = some v0 := fun ob => (HR8.out.later (alloc_belowS w8 ob)).facts.2.1; clear hb8)
                  | (refine step_appH rfl (.tmp 58) (.tmp 62) (by rfl) Try.underlying23 Try.infoInt rfl (by decide) (by rfl) HR8.out.own HR8.out.lt (by rfl) (by rfl) M1.out N3.out N4.out ?_; intro g4 c4 w9 hn9 hg9; have P9 := Lib.hid (HR8.out.put (Below.refl _ _) hg9 hn9); have q9 := rec_cells (HR8.out.grown (Below.refl _ _) hg9); obtain ⟨_, q1, _, q3⟩ := q9; clear hn9 hg9))
                all_goals
                  have F : Hid (MonSt w5 (w9.setCell ⟨g, 1, none⟩ (.slice (some ⟨g4, 0, none⟩) (xs.length + 1) c4)) g L (prodTo R L i (j + 1))) := Lib.hid ⟨_, by rw [HP1.out, intVals_one, List.length_append]; exact P9.out⟩
                  clear q0 q1 q2 q3 t1 f1
                  go_wp2_with fail
                  go_roundw
                  case rel => exact ⟨j + 1, by omega, by go_num, F⟩
                  case measure => simp [intOf]; omega
              · obtain rfl : j = L.length := by omega
                have F : Hid (MonSt w5 wr g L (prodTo R L (i + 1) 0)) := Lib.hid (by rw [← prodTo_next]; exact HST.out)
                clear HR hbw
                go_wp2_with fail
                go_roundw
                case rel => exact ⟨i + 1, by omega, by go_num, F⟩
                case measure => simp [intOf]; omega
          · obtain rfl : i = L.length := by omega
            obtain ⟨aP, cP, hv⟩ := owns_form HR.own
            subst hv
            obtain ⟨t0, t1, _, _⟩ := HR.facts
            obtain ⟨_, ⟨u0, u1⟩, z0, z1⟩ := HBX.out wr (Below.now HB5.out hbw)
            have hg1 : w.heap.size + 2 ≤ g := by have := HB5.out.size; have := HZ.out; have := HG.out; omega
            have hPL : prodTo R L L.length 0 = prodF R L := prodTo_done R L
            rw [hPL] at HRH t1 HR
            have F : Hid (RetMon k R w (.returned (.tuple #[.agg #[.int .i64 (L.length : Nat), .slice aP (prodF R L).length cP], .slice aL L.length cL, .bool true])) ((wr.setCell ⟨w.heap.size + 1, 0, none⟩ (.int .i64 (L.length : Nat))).setCell ⟨w.heap.size + 1, 1, none⟩ (.slice aP (prodF R L).length cP))) :=
              Lib.hid ⟨L, prodF R L, true, aP, aL, cP, cL, .inr ⟨HGO.out, HAL.out, rfl, rfl⟩, rfl,
                owns_mono (ownsRow_setCell_below (ownsRow_setCell_below HRH.out.own (by show w.heap.size + 1 < g + 1; omega) _) (by show w.heap.size + 1 < g + 1; omega) _) (by omega),
                owns_mono (ownsRow_setCell_below (ownsRow_setCell_below (owns_later HOL.out HRH.out.below) (by show w.heap.size + 1 < w.heap.size + 2; omega) _) (by show w.heap.size + 1 < w.heap.size + 2; omega) _) (by omega),
                ((Below.now HW1.out (Below.now HB5.out hbw)).setCell (by simp; try omega) _).setCell (by simp; try omega) _⟩
            clear hPL hbw HR
            go_wp2_with fail
            refine bodyPost_ret (v := .tuple #[.agg #[.int .i64 (L.length : Nat), .slice aP (prodF R L).length cP], .slice aL L.length cL, .bool true]) ?_ rfl F.out
            simp [results, Try.results30, go_sem, u0, u1]
end Go.Proofs.Ytdhaebbfiaddnaa
