/-
  'FnExactParseLinks' holds: whatever the arguments, the program's ParseLinks answers as the reference's does, and leaves its arguments as they were. No condition.
-/
import Derived.Test.YtklbehapbchnaaaDoorPrl11
import Derived.Test.YtklbehapbchnaaaDoorPrl06
import Derived.Test.YtklbehapbchnaaaDoorPrl09
import Derived.Test.YtklbehapbchnaaaDoorTie
import Derived.Test.YtklbehapbchnaaaDoorCards
import Derived.LaidMore
import Derived.Lib.LaidTab
import Derived.Stop.Joined
import Derived.Stop.LaidErr
import Derived.SevenTiedAt
import Derived.ChangeSame
import Derived.Lay
namespace Go.Proofs.YtklbehapbchnaaaDoor
open Go.RowKit
set_option linter.unusedVariables false
theorem owns_only {w w' : World} {base : Nat} {T : TypeId} {size : Nat} {a a' : Option Addr} {n m cap : Nat} {xs : List Value} (h : w.ownsRow base T size (.slice a n cap) m xs) (hr : OnlyRow w a' w')
    (hne : ∀ x y, a = some x → a' = some y → x.block ≠ y.block) : w'.ownsRow base T size (.slice a n cap) m xs := by
  refine h.kept hr ?_
  cases a with
  | none => left; rfl
  | some x =>
    right
    cases a' with
    | none => simp [Value.ownBlock]
    | some y => simpa [Value.ownBlock] using hne x y rfl rfl
theorem below_only {B : Nat} {w w1 w' : World} {a : Option Addr} (h : Below B w w1) (hr : OnlyRow w1 a w') (hB : B ≤ w1.heap.size) (hlo : ∀ x, a = some x → B ≤ x.block) : Below B w w' :=
  h.grown hr hB (fun k hk => by
    cases a with
    | none => simp [Value.ownBlock] at hk
    | some x => simp only [Value.ownBlock, Option.some.injEq] at hk; rw [← hk]; exact hlo x rfl)
theorem owns_range {w : World} {base : Nat} {T : TypeId} {size : Nat} {a : Option Addr} {n m cap : Nat} {xs : List Value} (h : w.ownsRow base T size (.slice a n cap) m xs) : ∀ x, a = some x → base ≤ x.block ∧ x.block < w.heap.size := by
  rintro x rfl
  exact h.lt x.block rfl
end Go.Proofs.YtklbehapbchnaaaDoor
namespace Go.Proofs.YtklbehapbchnaaaDoor
open Go.RowKit
set_option linter.unusedVariables false
/-- the mark of the j-th link -/
def mk1 (k j : Nat) : LkZ := (((k + j * 3 : Nat) : Int), ((k + j * 3 : Nat) : Int) + 1, ((((k + j * 3 : Nat) : Int) + 1 + 1).tmod 3 == 0))
def mkL (k n : Nat) : List LkZ := (List.range n).map (mk1 k)
theorem mkL_len (k n : Nat) : (mkL k n).length = n := by simp [mkL]
theorem mkL_nth {k n j : Nat} (h : j < n) : nthK (mkL k n) j = mk1 k j := by
  rw [nthK_lt (by rw [mkL_len]; exact h)]; simp [mkL]
def MarkG (T : TypeId) (size : Nat) (vals : List Value) (w wr : World) (base : Nat) (a : Option Addr) (n cap i : Nat) : Prop :=
  ∃ xs, wr.ownsRow base T size (.slice a n cap) n xs ∧ xs.take i = vals.take i ∧ OnlyRow w a wr
theorem MarkG.start {T : TypeId} {size : Nat} {vals : List Value} {w : World} {base : Nat} {a : Option Addr} {n cap : Nat} {xs : List Value} (h : w.ownsRow base T size (.slice a n cap) n xs) : MarkG T size vals w w base a n cap 0 :=
  ⟨xs, h, by simp, ⟨rfl, rfl, rfl, Nat.le_refl _, fun _ _ _ => rfl⟩⟩
theorem MarkG.addr {T : TypeId} {size : Nat} {vals : List Value} {w wr : World} {base : Nat} {a : Option Addr} {n cap i : Nat} (h : MarkG T size vals w wr base a n cap i) (hn : 0 < n) : ∃ g, a = some ⟨g, 0, none⟩ := by
  obtain ⟨xs, ho, _⟩ := h
  rcases ho.2 with ⟨hv, h0⟩ | ⟨g, cap', cur, hv, _⟩
  · omega
  · simp only [Value.slice.injEq] at hv
    exact ⟨g, hv.1⟩
theorem MarkG.cell {T : TypeId} {size : Nat} {vals : List Value} {w wr : World} {base g n cap i : Nat} (h : MarkG T size vals w wr base (some ⟨g, 0, none⟩) n cap i) {j : Nat} (hj : j < n * size) : ∃ v, wr.cell? ⟨g, j, none⟩ = some v := by
  obtain ⟨xs, ho, _⟩ := h
  have h1 := ho.1
  exact ⟨xs[j]'(by omega), by rw [ho.cellAt j hj, List.getElem?_eq_getElem]⟩
theorem MarkG.frozen {T : TypeId} {size : Nat} {vals : List Value} {w wr : World} {base g n cap i : Nat} (h : MarkG T size vals w wr base (some ⟨g, 0, none⟩) n cap i) (j : Nat) : wr.frozen? ⟨g, j, none⟩ = false := by
  obtain ⟨xs, ho, _⟩ := h
  exact ho.frozenAt j
theorem MarkG.store {T : TypeId} {size : Nat} {vals : List Value} {w wr : World} {base g n cap i : Nat} {u : Value} (h : MarkG T size vals w wr base (some ⟨g, 0, none⟩) n cap i) (hl : vals.length = n * size) (hu : vals[i]? = some u) :
    MarkG T size vals w (wr.setCell ⟨g, i, none⟩ u) base (some ⟨g, 0, none⟩) n cap (i + 1) := by
  obtain ⟨xs, ho, ht, hr⟩ := h
  have h1 := ho.1
  have hs := ho.stored i u
  obtain ⟨hu1, hu2⟩ := List.getElem?_eq_some_iff.1 hu
  refine ⟨_, hs.1, ?_, only_trans hr hs.2⟩
  rw [← hu2]
  exact fill_step (by omega) ht hu1
theorem MarkG.done {T : TypeId} {size : Nat} {vals : List Value} {w wr : World} {base : Nat} {a : Option Addr} {n cap i : Nat} (h : MarkG T size vals w wr base a n cap i) (hl : vals.length = n * size) (hi : n * size ≤ i) : wr.ownsRow base T size (.slice a n cap) n vals ∧ OnlyRow w a wr := by
  obtain ⟨xs, ho, ht, hr⟩ := h
  have h1 := ho.1
  have : xs = vals := fill_done (by omega) ht (by omega)
  subst this
  exact ⟨ho, hr⟩
set_option maxRecDepth 20000 in
set_option maxHeartbeats 1000000 in
theorem markLinkS_any (k n cap base : Nat) (a : Option Addr) (xs : List Value) (w : World) (ho : w.ownsRow base 38 3 (.slice a n cap) n xs) (hk : k ≤ 10000000) (hn : n ≤ 10000000) :
    Calls Tryd.prog 8 #[.slice a n cap, .int .i64 (k : Nat)] w fun e w' => e = .returned (.int .i64 ((k + n * 3 : Nat) : Int)) ∧ w'.ownsRow base 38 3 (.slice a n cap) n (linkCells (mkL k n)) ∧ OnlyRow w a w' := by
  have HM0 : Hid (MarkG 38 3 (linkCells (mkL k n)) w w base a n cap 0) := Lib.hid (MarkG.start ho)
  have HLN : Hid ((linkCells (mkL k n)).length = n * 3) := Lib.hid (by rw [linkCells_len, mkL_len])
  clear ho
  go_enter Tryd.func8, Tryd.ntmps8
  go_wp2_with fail
  go_loopw [1, 5] (fun c i wr => ∃ j : Nat, j ≤ n ∧ i = .int .i64 j ∧ c = .int .i64 ((k + j * 3 : Nat) : Int) ∧ Hid (MarkG 38 3 (linkCells (mkL k n)) w wr base a n cap (j * 3))) (fun _ i _ => n - (intOf i).toNat)
  case atStart => exact ⟨0, Nat.zero_le _, rfl, rfl, HM0⟩
  case round =>
    clear HM0
    obtain ⟨j, hj, rfl, rfl, HM⟩ := hrel
    by_cases hlt : j < n
    · obtain ⟨g, rfl⟩ := HM.out.addr (by omega)
      obtain ⟨t1, t2, t3⟩ := linkCells_at (mkL k n) j (by rw [mkL_len]; exact hlt)
      rw [mkL_nth hlt] at t1 t2 t3
      unfold mk1 at t1 t2 t3
      simp only [] at t1 t2 t3
      obtain ⟨K, hK⟩ : ∃ K, k + j * 3 = K := ⟨_, rfl⟩
      rw [hK] at t1 t2 t3 ⊢
      have hKb : K ≤ 40000000 := by omega
      have HS1 := Lib.hid (HM.out.store HLN.out t1)
      have HS2 := Lib.hid (HS1.out.store HLN.out t2)
      have HS3 := Lib.hid (HS2.out.store HLN.out t3)
      obtain ⟨v0, hv0⟩ := HM.out.cell (j := j * 3) (by omega)
      obtain ⟨v1, hv1⟩ := HS1.out.cell (j := j * 3 + 1) (by omega)
      obtain ⟨v2, hv2⟩ := HS2.out.cell (j := j * 3 + 2) (by omega)
      have f0 := HM.out.frozen (j * 3)
      have f1 := HS1.out.frozen (j * 3 + 1)
      have f2 := HS2.out.frozen (j * 3 + 2)
      have HKK := Lib.hid hK
      obtain ⟨r, hr⟩ : ∃ r : Nat, (K + 2) % 3 = r := ⟨_, rfl⟩
      have hr3 : r < 3 := by omega
      have htm : ((K : Int) + 1 + 1).tmod 3 = (r : Int) := by
        rw [show (K : Int) + 1 + 1 = ((K + 2 : Nat) : Int) by omega, Int.tmod_eq_emod_of_nonneg (by omega), ← hr]
        omega
      have hwr : IntKind.i64.wrap (r : Int) = (r : Int) := IntWalk.i64_in _ ⟨by omega, by omega⟩
      rw [htm] at HS3
      clear t1 t2 t3 hK hr
      go_wp2_with fail
      go_roundw
      case rel => exact ⟨j + 1, by omega, by go_num, by have := HKK.out; go_num, by rw [show (j + 1) * 3 = j * 3 + 1 + 1 + 1 by omega]; exact HS3⟩
      case measure => simp [intOf]; omega
    · have HD := Lib.hid (HM.out.done HLN.out (by omega))
      obtain rfl : j = n := by omega
      go_wp2_with fail
      go_ret
      exact ⟨rfl, HD.out⟩
set_option maxRecDepth 20000 in
set_option maxHeartbeats 1000000 in
theorem heldLinkS_any (k n cap : Nat) (a : Option Addr) (w : World) (hl : LinksIn w a (mkL k n)) (hk : k ≤ 10000000) (hn : n ≤ 10000000) :
    Calls Tryd.prog 9 #[.slice a n cap, .int .i64 (k : Nat)] w fun e w' => e = .returned (.int .i64 ((k + n * 3 : Nat) : Int)) ∧ w = w' := by
  have HL := Lib.hid hl
  clear hl
  go_enter Tryd.func9, Tryd.ntmps9
  go_wp2_with fail
  go_loop [1, 5] (fun c i => ∃ j : Nat, j ≤ n ∧ i = .int .i64 j ∧ c = .int .i64 ((k + j * 3 : Nat) : Int)) (fun _ i => n - (intOf i).toNat)
  case atStart => exact ⟨0, Nat.zero_le _, rfl, rfl⟩
  case round =>
    obtain ⟨j, hj, rfl, rfl⟩ := hrel
    by_cases hlt : j < n
    · obtain ⟨b, o, rfl, hb, hc⟩ := HL.out.cell (i := j) (by rw [mkL_len]; exact hlt)
      obtain ⟨g1, g2, g3⟩ := hc j (by rw [mkL_len]; exact hlt)
      rw [mkL_nth hlt] at g1 g2 g3
      unfold mk1 at g1 g2 g3
      simp only [] at g1 g2 g3
      obtain ⟨K, hK⟩ : ∃ K, k + j * 3 = K := ⟨_, rfl⟩
      rw [hK] at g1 g2 g3 ⊢
      have hKb : K ≤ 40000000 := by omega
      have HKK := Lib.hid hK
      obtain ⟨r, hr⟩ : ∃ r : Nat, (K + 2) % 3 = r := ⟨_, rfl⟩
      have hr3 : r < 3 := by omega
      have htm : ((K : Int) + 1 + 1).tmod 3 = (r : Int) := by
        rw [show (K : Int) + 1 + 1 = ((K + 2 : Nat) : Int) by omega, Int.tmod_eq_emod_of_nonneg (by omega), ← hr]
        omega
      have hwr : IntKind.i64.wrap (r : Int) = (r : Int) := IntWalk.i64_in _ ⟨by omega, by omega⟩
      rw [htm] at g3
      clear hc hK hr
      go_wp2_with fail
      go_round
      case rel => exact ⟨j + 1, by omega, by go_num, by have := HKK.out; go_num⟩
      case measure => simp [intOf]; omega
    · obtain rfl : j = n := by omega
      go_wp2_with fail
      go_ret
      exact ⟨rfl, rfl⟩
end Go.Proofs.YtklbehapbchnaaaDoor
namespace Go.Proofs.YtklbehapbchnaaaDoor.fnExactParseLinks
open Go.ChangeShapes Go.WideShapes Go.ChangeAt Go.RowKit Go.Joins
set_option linter.unusedVariables false
set_option maxRecDepth 100000 in
set_option maxHeartbeats 2000000 in
theorem walk (s0 : ByteArray) (w : World) (hn0 : s0.size ≤ maxLen) (ht : TabE w) :
    Calls Tryd.prog 3 #[.string s0] w fun e w' => e = .returned (.bool true) ∧ Below w.heap.size w w' := by
  unfold maxLen at hn0
  by_cases hs : (1048576 : Int) < (s0.size : Int)
  · clear ht
    go_enter Tryd.func3, Tryd.ntmps3
    go_wp2_with fail
    go_ret
    exact ⟨rfl, Below.refl _ _⟩
  · have HS := Lib.hid (fun W => specParseLinks_any s0 W (by omega))
    have HI := Lib.hid (fun W h => implParseLinks_any s0 W (by omega) h)
    have HE := Lib.hid ht
    have HSZ : Hid (s0.size ≤ 1048576) := Lib.hid (by omega)
    clear ht
    go_enter Tryd.func3, Tryd.ntmps3
    go_wp2_with fail
    refine (HS.out _).mono ?_
    rintro e w1 ⟨L, b, aw, cw, hA, rfl, how, hb1, hlen⟩
    have HA := Lib.hid hA
    have HB1 := Lib.hid hb1
    have HW1 := Lib.hid how
    have HLN : Hid (L.length ≤ 1048577) := Lib.hid (by have := HSZ.out; omega)
    clear hA hb1 how hlen
    have d1 := Below.refl w1.heap.size w1
    go_wp2_with fail
    refine (HI.out _ (HE.out.later HB1.out)).mono ?_
    rintro e w2 ⟨L2, b2, ag, cg, hA2, rfl, hog, hb2, _⟩
    obtain ⟨rfl, rfl⟩ := hA2.uniq HA.out
    have HG2 := Lib.hid hog
    have HB2 := Lib.hid hb2
    have HW2 := Lib.hid (owns_later HW1.out hb2)
    clear hA2 hog hb2 d1
    have hbb : (b2 != b2) = false := by simp
    go_wp2_with fail
    refine (eqLinkS_same L2 ag aw cg cw _ (owns_links HG2.out) (owns_links HW2.out) (by have := HLN.out; omega)).mono ?_
    rintro e w3 ⟨rfl, hb3⟩
    have HG3 := Lib.hid (owns_later HG2.out hb3)
    have HW3 := Lib.hid (owns_later HW2.out hb3)
    have HB3 := Lib.hid (Below.now HB2.out hb3)
    clear hb3
    go_wp2_with fail
    refine (markLinkS_any 1 L2.length cg _ ag _ _ HG3.out (by omega) (by have := HLN.out; omega)).mono ?_
    rintro e w4 ⟨rfl, hm, hr⟩
    have HM4 := Lib.hid hm
    have HB4 : Hid (Below w1.heap.size w1 w4) := Lib.hid (below_only HB3.out hr HB3.out.size (fun x hx => (owns_range HG3.out x hx).1))
    have HW4 : Hid (w4.ownsRow w.heap.size 38 3 (.slice aw L2.length cw) L2.length (linkCells L2)) := Lib.hid (owns_only HW3.out hr (fun x y hx hy => by
      have h1 := (owns_range HW1.out x hx).2
      have h2 := (owns_range HG3.out y hy).1
      omega))
    clear hm hr
    obtain ⟨M, hM⟩ : ∃ M, 1 + L2.length * 3 = M := ⟨_, rfl⟩
    rw [hM]
    have HMM := Lib.hid hM
    have hM0 : ¬ (M : Int) < 0 := by omega
    clear hM
    have HHE := Lib.hid (fun W h => heldLinkS_any 1 L2.length cg ag W h (by omega) (by have := HLN.out; omega))
    rw [HMM.out] at HHE
    go_wp2_with fail
    refine (HHE.out _ (owns_links HM4.out)).mono ?_
    rintro e w5 ⟨rfl, rfl⟩
    go_wp2_with fail
    refine (HI.out _ (HE.out.later (Below.now HB1.out HB4.out))).mono ?_
    rintro e w6 ⟨L3, b3, ah, ch, hA3, rfl, hoh, hb6, _⟩
    obtain ⟨rfl, rfl⟩ := hA3.uniq HA.out
    have HH6 := Lib.hid hoh
    have HM6 := Lib.hid (owns_later HM4.out hb6)
    have HW6 := Lib.hid (owns_later HW4.out hb6)
    have HB6 := Lib.hid (Below.now HB4.out hb6)
    clear hA3 hoh hb6
    go_wp2_with fail
    refine (eqLinkS_same L3 ah aw ch cw _ (owns_links HH6.out) (owns_links HW6.out) (by have := HLN.out; omega)).mono ?_
    rintro e w7 ⟨rfl, hb7⟩
    have HM7 := Lib.hid (owns_later HM6.out hb7)
    have HB7 := Lib.hid (Below.now HB6.out hb7)
    clear hb7
    go_wp2_with fail
    refine (HHE.out _ (owns_links HM7.out)).mono ?_
    rintro e w8 ⟨rfl, rfl⟩
    go_wp2_with fail
    go_ret
    exact ⟨rfl, Below.now HB1.out HB7.out⟩
end Go.Proofs.YtklbehapbchnaaaDoor.fnExactParseLinks
namespace Go.Proofs.YtklbehapbchnaaaDoor.fnExactParseLinks
open Go.ChangeShapes Go.WideShapes Go.ChangeAt Go.RowKit Go.Joins
open Go.ChangeMaps (open_string shut_string)
set_option linter.unusedVariables false
theorem own : ownKnob Tryd.prog.godebug = none := by kernel_rfl
theorem laidOut : laidOutB Tryd.prog = true := by kernel_rfl
theorem rdS : Tryd.prog.readableRec 9 = true ∧ 9 < Tryd.prog.types.size := ⟨by kernel_rfl, of_decide_eq_true (by kernel_rfl)⟩
theorem rd : ∀ t ∈ Tryd.f3.params.toList, Tryd.prog.readableRec t = true ∧ t < Tryd.prog.types.size := by
  rw [Tryd.params3]
  intro t ht
  simp at ht
  subst ht
  exact rdS
theorem door_met (os : Os) (args : Array Value) : laidMetH Tryd.prog Rows.fnExactParseLinksRow.laid ((World.laidAll Tryd.prog os Rows.fnExactParseLinksRow.laid).forCall (fun _ _ => 0) ⟨#[], args, []⟩).memory :=
  by rw [MakeChecks.laidMetH_plain _ _ _ (by kernel_rfl)]; exact laidMet_laidAll _ (by kernel_rfl) (by kernel_rfl)
theorem star : "*" ++ "errors.errorString" = "*errors.errorString" := by decide
theorem rowE (u : TypeId) (h : Tryd.prog.typeName? 3 u = some "*errors.errorString") : u = 150 :=
  typeName_ptr_named (nm := "errors.errorString") (by rw [star]; kernel_rfl) (by kernel_rfl) (by decide) u (by rw [star]; exact h)
theorem gR : Tryd.prog.globalNamed "strconv.ErrRange" = some 4 := by kernel_rfl
theorem gS : Tryd.prog.globalNamed "strconv.ErrSyntax" = some 3 := by kernel_rfl
theorem tab_laid {W : World} (h : laidMetH Tryd.prog Rows.fnExactParseLinksRow.laid W) : TabE W := by
  rw [MakeChecks.laidMetH_plain _ _ _ (by kernel_rfl)] at h
  have h3 : laidMet Tryd.prog (("internal/strconv.uint64pow10", Lib.tabData .u64 Lib.pow10Tab) :: [("unicode/utf8.acceptRanges", Rows.laid_unicode_utf8_acceptRanges), ("strconv.ErrRange", Rows.laid_strconv_ErrRange), ("strconv.ErrSyntax", Rows.laid_strconv_ErrSyntax), ("unicode/utf8.first", Rows.laid_unicode_utf8_first)]) W := by
    have e : (Rows.laid_internal_strconv_uint64pow10 : DataW Unit) = Lib.tabData .u64 Lib.pow10Tab := by kernel_rfl
    rw [← e]
    exact laidMet.tail (laidMet.tail h)
  have h4 : laidMet Tryd.prog (("strconv.ErrRange", .iface "*errors.errorString" (.ptr (.agg [.lit (.string [118, 97, 108, 117, 101, 32, 111, 117, 116, 32, 111, 102, 32, 114, 97, 110, 103, 101])]))) :: [("strconv.ErrSyntax", Rows.laid_strconv_ErrSyntax), ("unicode/utf8.first", Rows.laid_unicode_utf8_first)]) W := laidMet.tail (laidMet.tail h3)
  have h5 : laidMet Tryd.prog (("strconv.ErrSyntax", .iface "*errors.errorString" (.ptr (.agg [.lit (.string [105, 110, 118, 97, 108, 105, 100, 32, 115, 121, 110, 116, 97, 120])]))) :: [("unicode/utf8.first", Rows.laid_unicode_utf8_first)]) W := laidMet.tail h4
  obtain ⟨a1, s1, v1, _⟩ := laid_sentinel h4 gR (ti := 56) (by kernel_rfl) Tryd.underlying56 rowE Tryd.underlying150 Tryd.underlying152 rfl rfl Tryd.underlying9 (by kernel_rfl) (by kernel_rfl)
  obtain ⟨a2, s2, v2, _⟩ := laid_sentinel h5 gS (ti := 56) (by kernel_rfl) Tryd.underlying56 rowE Tryd.underlying150 Tryd.underlying152 rfl rfl Tryd.underlying9 (by kernel_rfl) (by kernel_rfl)
  refine ⟨Lib.tabIs_of_head (g := 5) (by kernel_rfl) (by kernel_rfl) Tryd.underlying157 Tryd.underlying121 (by kernel_rfl) (by kernel_rfl) h3, ⟨_, _, by simpa using World.var?_cell gS v2 0⟩, ⟨_, _, by simpa using World.var?_cell gR v1 0⟩⟩
set_option maxRecDepth 100000 in
theorem lifted (os : Os) (started : os.Started) (H : Type) (enc : TypeId × Value → H) :
    ReturnsInHanded {} Tryd.checked os 3 .any (fun w args => (Rows.fnExactParseLinksSpec.pre enc Tryd.prog Tryd.f3 [] false w args ∧ laidMetH Tryd.prog Rows.fnExactParseLinksRow.laid w) ∧ sizedMet enc Tryd.prog Tryd.f3 (OpenSpec.ofChange Rows.fnExactParseLinksSpec) false w args)
      (Rows.fnExactParseLinksSpec.post enc Tryd.prog Tryd.f3 false true false false) := by
  refine returnsInHanded_of_change_and (C := Tryd.checked) (X := fun w _ => laidMetH Tryd.prog Rows.fnExactParseLinksRow.laid w) (fun _ _ _ hh h => h.of_heap hh) own started (by kernel_rfl) Tryd.func3
    (ChangeSpec.witness_shaped (enc := enc) (C := Tryd.checked) (os := os) (X := fun w _ => laidMetH Tryd.prog Rows.fnExactParseLinksRow.laid w) false (World.laidAll Tryd.prog os Rows.fnExactParseLinksRow.laid) #[.string ByteArray.empty] 8 (World.laidAll_os _ _ _) (World.shaped_of_ZipB (by kernel_rfl) (by kernel_rfl)) (by kernel_rfl) (by kernel_rfl) (by kernel_rfl) (door_met os _)) ?_
  intro W base args ds gs before hval0 hW _ _ hL _
  have ht := tab_laid hL
  have hval : ∀ (j : Nat) t v, Tryd.f3.params[j]? = some t → args[j]? = some v → Value.okWide Tryd.prog W .any base t v := hval0
  have hW' := hW
  obtain ⟨p, q, hA0, hV, rfl, hfz, hnd⟩ := hW
  have hA : DataW.TrodAll enc Tryd.prog W 0 (fun _ => true) true Tryd.f3.params.toList args.toList ds p := hA0
  rw [Tryd.params3] at hA hval
  obtain ⟨v0, vs0, d0, ds0, p0, q0, hargs, rfl, rfl, h0, r0⟩ := trodAll_cons hA
  obtain ⟨rfl, rfl, rfl⟩ := trodAll_nil r0
  obtain rfl : args = #[v0] := by cases args; simp_all
  obtain ⟨rfl, rfl⟩ := trodVars_none hV
  obtain ⟨s0, rfl, hd0, hp0, hn0⟩ := open_string Tryd.underlying9 (hval 0 9 v0 rfl rfl) h0
  clear hA0 hval0
  refine (walk s0 W hn0 ht).mono fun e W' ⟨he, hg⟩ => ?_
  subst he
  exact ⟨_, rfl, law_post laidOut rd rfl hW' rfl Tryd.underlying4 rfl hg⟩
theorem over : Rows.fnExactParseLinksRow.holds Tryd.pinned (OpenSpec.ofChange Rows.fnExactParseLinksSpec) :=
  OpenClaim.holds_of_wide 3 Tryd.f3 rfl rfl rfl rfl rfl rfl rfl ⟨rfl, rfl, rfl, rfl, rfl⟩ rfl rfl rfl rfl rfl (by kernel_rfl) Tryd.func3 (by kernel_rfl)
    (of_decide_eq_true (by kernel_rfl)) (by unfold Func.isWrapper; first | (rw [if_pos (by decide +kernel)]; kernel_rfl) | (rw [if_neg (by decide +kernel)]; exact ⟨rfl, rfl⟩))
    (fun os started H enc _ => lifted os started H enc)
theorem proved : Rows.FnExactParseLinksCardSaid :=
  Claim7.holds_tied_plain_at .later [] [.data, .data, .data, .data, .sentinel, .sentinel, .pinned] true (true, "82c6675a25ee7f3b6354010a81f8ab2516bbdece6755ac8003825ca59328320c") true
    over (fun _ h => by cases h) (by kernel_rfl) (fun _ h => by cases h) fnExactParseLinks_row_tie rfl ⟨rfl, rfl⟩ (by kernel_rfl) rfl
    (fun f fn hf hfn => by
      obtain rfl : f = 3 := Option.some.inj ((show Tryd.prog.funcNamed "loop.example/g03201/laws.FnExactParseLinks" = some 3 by kernel_rfl).symm.trans hf) |>.symm
      obtain rfl : fn = Tryd.f3 := (Option.some.inj (Tryd.func3.symm.trans hfn)).symm
      exact ⟨by kernel_rfl, fun j t ht => by
        rw [Tryd.params3] at ht
        have hm : t ∈ [9] := by simpa using Array.mem_of_getElem? ht
        have hall : ([9].all fun u => !Tryd.prog.wantsStandIn u) = true := by kernel_rfl
        exact (show Tryd.prog.wantsStandIn t = false by simpa using List.all_eq_true.1 hall t hm)⟩)
    (by kernel_rfl)
#print axioms proved
end Go.Proofs.YtklbehapbchnaaaDoor.fnExactParseLinks
