/-
  SearchOk, isSearched, GrowthOf of the program; MakeWord of the reference; the laws' sum.
-/
import Derived.Test.YtgoeadgpbidgiaaGreatClp04
import Derived.Test.YtgoeadgpbidgiaaGreatClp02
import Derived.Laws.BitsLemmas
import Derived.Laws.BitsAllLaws
import Derived.Deep.DeepCutAuto
import Derived.Test.YtgoeadgpbidgiaaGreatClp08
import Derived.Test.YtgoeadgpbidgiaaGreatClp10
import Derived.Test.YtgoeadgpbidgiaaGreatClp05
import Derived.Test.YtgoeadgpbidgiaaGreatClp14
namespace Go.Proofs.YtgoeadgpbidgiaaGreat
open Go.RowKit Go.Sort Go.Lib
set_option linter.unusedVariables false
theorem owns_blockSF {w : World} {base g cap n : Nat} {T : TypeId} {xs : List Value} (h : w.ownsRow base T 1 (.slice (some ⟨g, 0, none⟩) n cap) n xs) : ∃ cur, base ≤ g ∧ w.heap[g]? = some (.cells cur T (0, 0)) ∧ n ≤ cap ∧ cap ≤ maxLen ∧ cur.size = cap * 1 ∧ cur.toList.take n = xs := by
  rcases h.2 with ⟨hv, _⟩ | ⟨g', cap', cur, hv, hb, hg, hn, hc, hs, ht⟩
  · cases hv
  · simp only [Value.slice.injEq, Option.some.injEq, Addr.mk.injEq, and_true, true_and] at hv
    obtain ⟨rfl, rfl⟩ := hv
    exact ⟨cur, hb, hg, hn, hc, hs, by simpa using ht⟩
/-- compareWords over the bytes -/
def cfLF (x y : List UInt8) : Int := cfW ⟨x.toArray⟩ ⟨y.toArray⟩
theorem ltOf_cfLF (x y : List UInt8) : ltOf cfLF x y = ltW x y := by
  have h1 : (ByteArray.mk x.toArray).size = x.length := by show x.toArray.size = _; simp
  have h2 : (ByteArray.mk y.toArray).size = y.length := by show y.toArray.size = _; simp
  unfold ltOf cfLF cfW orF cmpS Lib.compareInt ltW
  rw [h1, h2, bytesLess_eq, Lib.toList_data, Lib.toList_data]
  by_cases a1 : x.length < y.length
  · simp [a1]
  · by_cases a2 : y.length < x.length
    · have a3 : ¬ x.length = y.length := by omega
      simp [a1, a2, a3]
    · have a3 : x.length = y.length := by omega
      by_cases a4 : x < y
      · simp [a3, a4]
      · by_cases a5 : x = y
        · subst a5
          simp [List.lt_irrefl]
        · simp [a3, a4, a5]
theorem ltOf_cfLF' : ltOf cfLF = ltW := by funext x y; exact ltOf_cfLF x y
theorem cmpLaysWF (blk off size : Nat) (w : World) : CmpLays1 Tryz.prog 27 #[] encStr cfLF blk off size w := fun m os dk hs x y =>
  (compareWords_any ⟨x.toArray⟩ ⟨y.toArray⟩ _).mono fun e w' ⟨he, o, hw⟩ => ⟨he, 0, #[o], by rw [hw, alloc_eq_grow, World.drewN_zero]⟩
theorem strVals_encF (l : List ByteArray) : strVals l = (blsW l).map encStr := by
  unfold strVals blsW
  rw [List.map_map]; rfl
theorem enc_strValsF (z : List (List UInt8)) : z.map encStr = strVals (z.map fun x => ⟨x.toArray⟩) := by
  unfold strVals
  rw [List.map_map]; rfl
theorem sortW_anyF (z : List (List UInt8)) (base g cap : Nat) (w : World) (h : w.ownsRow base 9 1 (.slice (some ⟨g, 0, none⟩) z.length cap) z.length (z.map encStr)) (hlen : z.length ≤ 2 ^ 40) :
    Calls Tryz.prog 26 #[.slice (some ⟨g, 0, none⟩) z.length cap, .func (.func 27) #[] #[]] w fun e w' => e = .returned (.tuple #[]) ∧ w'.ownsRow base 9 1 (.slice (some ⟨g, 0, none⟩) z.length cap) z.length ((z.mergeSort fun x y => !ltW y x).map encStr) ∧ w.grownBy w' (some g) := by
  obtain ⟨cur, h1, h2, h3, h4, h5, h6⟩ := owns_blockSF h
  have hc := Tryz.slices_SortFunc_total encStr (fun x => rfl) cfLF (by rw [ltOf_cfLF']; exact ltW_swo) 27 #[] g 0 cap z.toArray w (enters_of Tryz.func27 (by kernel_rfl) rfl) (cmpLaysWF _ _ _ _) (holds_of_block h2 h6) (Array.getElem?_eq_some_iff.1 h2).1 (by simp; omega) (by rw [ltOf_cfLF']; exact fun x y => ltW_total)
  rw [ltOf_cfLF', List.size_toArray] at hc
  refine hc.mono ?_
  rintro e w' ⟨rfl, n, os, rfl⟩
  exact ⟨rfl, ownsRow_sorted (by simp) h1 h2 h3 h4 h5, grownBy_sorted _⟩
end Go.Proofs.YtgoeadgpbidgiaaGreat
namespace Go.Proofs.YtgoeadgpbidgiaaGreat
open Go.RowKit
set_option linter.unusedVariables false
theorem and255 (n : Int) : bits .and .i64 n 255 = n % 256 := by
  have h255 : (BitVec.ofInt 64 255).toNat = 2 ^ 8 - 1 := by decide
  have key : (BitVec.ofInt 64 n &&& BitVec.ofInt 64 255).toNat = (n % ((2 ^ 64 : Nat) : Int)).toNat % 2 ^ 8 := by
    rw [BitVec.toNat_and, BitVec.toNat_ofInt, h255, Nat.and_two_pow_sub_one_eq_mod]
  show IntKind.i64.wrap ((BitVec.ofInt 64 n &&& BitVec.ofInt 64 255).toNat : Nat) = n % 256
  rw [key, IntKind.wrap_i64]
  omega
/-- a slice of bytes -/
def BytesIn (w : World) (a : Option Addr) (l : List UInt8) : Prop := CellsIn w a (l.map fun c => Value.int .u8 (c.toNat : Int))
theorem BytesIn.later {w w' : World} {a : Option Addr} {l : List UInt8} (h : BytesIn w a l) (hb : Below w.heap.size w w') : BytesIn w' a l := CellsIn.later h hb
theorem BytesIn.cell {w : World} {a : Option Addr} {l : List UInt8} (h : BytesIn w a l) {i : Nat} (hi : i < l.length) :
    ∃ b off, a = some ⟨b, off, none⟩ ∧ b < w.heap.size ∧ ∃ c : Nat, c < 256 ∧ w.cell? ⟨b, off + i, none⟩ = some (.int .u8 (c : Nat)) := by
  rcases h with h | ⟨b, off, ha, hc⟩
  · have : l = [] := by simpa using h
    subst this; simp at hi
  · have h1 := hc i (by simpa using hi)
    rw [List.getElem_map] at h1
    exact ⟨b, off, ha, World.block_lt_of_cell? w _ h1, l[i].toNat, l[i].toNat_lt, h1⟩
/-- a cursor in block B over n bytes -/
def CurAt (w : World) (B : Nat) (a : Option Addr) (n cap : Nat) : Prop := ∃ (i : Nat) (h : Int), w.heap[B]? = some (.cells #[.slice a n cap, .int .i64 (i : Nat), .int .i64 h] 79 (0, 0)) ∧ i ≤ n
theorem CurAt.lt {w : World} {B : Nat} {a : Option Addr} {n cap : Nat} (h : CurAt w B a n cap) : B < w.heap.size := by
  obtain ⟨i, h, h1, _⟩ := h
  exact (Array.getElem?_eq_some_iff.1 h1).1
theorem CurAt.later {w w' : World} {B : Nat} {a : Option Addr} {n cap : Nat} (h : CurAt w B a n cap) (hb : Below w.heap.size w w') : CurAt w' B a n cap := by
  have hl := h.lt
  obtain ⟨i, h, h1, h2⟩ := h
  exact ⟨i, h, by rw [hb.block B hl]; exact h1, h2⟩
theorem BytesIn.grown {w w' : World} {B : Nat} {a : Option Addr} {l : List UInt8} (h : BytesIn w a l) (hg : w.grownBy w' (some B)) (hB : l ≠ [] → ∀ x, a = some x → x.block ≠ B) : BytesIn w' a l := by
  rcases h with h | ⟨b, off, ha, hc⟩
  · exact .inl h
  · refine .inr ⟨b, off, ha, fun i hi => ?_⟩
    rw [World.cell?_of_block (w := w) (hg.block b (World.block_lt_of_cell? w _ (hc i hi)) (fun e => hB (fun e2 => by subst e2; simp at hi) _ ha (Option.some.inj e)))]
    exact hc i hi
/-- behind a byte's first steps -/
def CurP (w : World) (B : Nat) (a : Option Addr) (n cap i : Nat) (v : Value) (wx : World) : Prop := ∃ (x : Nat) (h2 : Int), x < 256 ∧ v = .int .i64 ((x : Nat) : Int) ∧ wx.heap[B]? = some (.cells #[.slice a n cap, .int .i64 (i : Nat), .int .i64 h2] 79 (0, 0)) ∧ w.grownBy wx (some B)
theorem CurP.mk {w : World} {B : Nat} {a : Option Addr} {n cap i : Nat} {v h2 : Int} {wx : World} (hb : wx.heap[B]? = some (.cells #[.slice a n cap, .int .i64 (i : Nat), .int .i64 h2] 79 (0, 0))) (hg : w.grownBy wx (some B)) : CurP w B a n cap i (.int .i64 (v % 256)) wx :=
  ⟨(v % 256).toNat, h2, by omega, by rw [Int.toNat_of_nonneg (by omega)], hb, hg⟩
theorem cellsCur {w : World} {B : Nat} {x y z : Value} {T : TypeId} (h : w.heap[B]? = some (.cells #[x, y, z] T (0, 0))) : w.cell? ⟨B, 0, none⟩ = some x ∧ w.cell? ⟨B, 1, none⟩ = some y ∧ w.cell? ⟨B, 2, none⟩ = some z ∧ (∀ i, w.frozen? ⟨B, i, none⟩ = false) := by
  refine ⟨by rw [cell_of_row _ _ 0 _ _ _ h]; rfl, by rw [cell_of_row _ _ 1 _ _ _ h]; rfl, by rw [cell_of_row _ _ 2 _ _ _ h]; rfl, fun i => by simp [World.frozen?, h]⟩
theorem setCur2 {w : World} {B : Nat} {x y z : Value} {T : TypeId} (h : w.heap[B]? = some (.cells #[x, y, z] T (0, 0))) (v : Value) : (w.setCell ⟨B, 2, none⟩ v).heap[B]? = some (.cells #[x, y, v] T (0, 0)) := by
  unfold World.setCell
  rw [Array.getElem?_modify, if_pos rfl, h]
  rfl
theorem setCur1 {w : World} {B : Nat} {x y z : Value} {T : TypeId} (h : w.heap[B]? = some (.cells #[x, y, z] T (0, 0))) (v : Value) : (w.setCell ⟨B, 1, none⟩ v).heap[B]? = some (.cells #[x, v, z] T (0, 0)) := by
  unfold World.setCell
  rw [Array.getElem?_modify, if_pos rfl, h]
  rfl
theorem setGrown (w : World) (B o : Nat) (v : Value) : w.grownBy (w.setCell ⟨B, o, none⟩ v) (some B) := by
  have hszc : (w.setCell ⟨B, o, none⟩ v).heap.size = w.heap.size := by simp
  exact ⟨rfl, rfl, rfl, by rw [hszc]; exact Nat.le_refl _, fun k hk hne => by
    unfold World.setCell
    rw [Array.getElem?_modify, if_neg (fun e : B = k => hne (by rw [e]))]⟩
theorem grown_tr {w w1 w2 : World} {r : Option Nat} (h : w.grownBy w1 r) (h' : w1.grownBy w2 r) : w.grownBy w2 r :=
  ⟨h'.os.trans h.os, h'.tape.trans h.tape, h'.output.trans h.output, Nat.le_trans h.size h'.size, fun k hk hne => (h'.block k (Nat.lt_of_lt_of_le hk h.size) hne).trans (h.block k hk hne)⟩
theorem grown_drewN {w w1 : World} {r : Option Nat} (h : w.grownBy w1 r) (n : Nat) : w.grownBy (w1.drewN n) r := ⟨h.os, h.tape, h.output, h.size, h.block⟩
/-- what a byte's call leaves -/
def RetByte (B : Nat) (a : Option Addr) (n cap : Nat) (w : World) (e : Ending) (w' : World) : Prop := ∃ x : Nat, x < 256 ∧ e = .returned (.int .i64 ((x : Nat) : Int)) ∧ CurAt w' B a n cap ∧ w.grownBy w' (some B)
set_option maxRecDepth 20000 in
set_option maxHeartbeats 2000000 in
theorem l01Byte_any (B : Nat) (a : Option Addr) (l : List UInt8) (cap : Nat) (w : World) (hc : CurAt w B a l.length cap) (hl : BytesIn w a l) (hB : l ≠ [] → ∀ x, a = some x → x.block ≠ B) (hlen : l.length ≤ 2 ^ 40) :
    Calls Tryz.prog 18 #[.pointer (some ⟨B, 0, none⟩)] w (RetByte B a l.length cap w) := by
  obtain ⟨i, h, hblk, hi⟩ := hc
  have h255 := and255
  obtain ⟨c0, c1, c2, cf⟩ := cellsCur hblk
  have cf2 := cf 2
  have HB2 := Lib.hid (fun v => setCur2 hblk v)
  have g0 : ∀ v, (w.setCell ⟨B, 2, none⟩ v).cell? ⟨B, 2, none⟩ = some v := fun v => (cellsCur (HB2.out v)).2.2.1
  clear cf
  have HL := Lib.hid hl
  have HBB := Lib.hid hB
  clear hl hB
  go_enter Tryz.func18, Tryz.ntmps18
  go_upto_region 2 with fail
  go_cut [3] (fun v wx => CurP w B a l.length cap i v wx)
  case first =>
    go_quiet (fail)
    go_wp2_with fail
    go_meet
    exact CurP.mk (by simpa using HB2.out _) (grown_drewN (setGrown _ _ _ _) _)
  case rest =>
    obtain ⟨x, h2, hx, rfl, hblk2, hg2⟩ := hcut
    have HG2 := Lib.hid hg2
    have HL2 := Lib.hid (HL.out.grown hg2 HBB.out)
    have HK2 := Lib.hid hblk2
    clear c0 c1 c2 cf2 HB2 g0 hblk hg2 HL
    obtain ⟨c0, c1, c2, cf⟩ := cellsCur hblk2
    have cf1 := cf 1
    clear cf hblk2
    by_cases hlt : i < l.length
    · obtain ⟨b, off, rfl, hb, c, hc, hcell⟩ := HL2.out.cell hlt
      have hil : (i : Int) < (l.length : Int) := by omega
      have hi0 : (0 : Int) ≤ (i : Int) := by omega
      go_wp2_with fail
      go_quiet (fail)
      go_upto_region 4 with fail
      go_cut [3] (fun v wx => CurP w B (some ⟨b, off, none⟩) l.length cap i v wx)
      case first =>
        go_quiet (fail)
        go_wp2_with fail
        go_meet
        exact CurP.mk (by simpa using HK2.out) (by first | exact grown_drewN HG2.out _ | exact grown_drewN (grown_drewN HG2.out _) _)
      case rest =>
        obtain ⟨x3, h3, hx3, rfl, hblk3, hg3⟩ := hcut
        have HG3 := Lib.hid hg3
        have HB3 := Lib.hid (fun v => setCur1 hblk3 v)
        clear c0 c1 c2 cf1 HK2 hcell hg3
        obtain ⟨c0, c1, c2, cf⟩ := cellsCur hblk3
        have cf1 := cf 1
        clear cf hblk3
        go_wp2_with fail
        go_ret
        exact ⟨x3, hx3, rfl, ⟨i + 1, h3, by rw [HB3.out]; simp, by omega⟩, grown_tr HG3.out (setGrown _ _ _ _)⟩
    · have hil : ¬ (i : Int) < (l.length : Int) := by omega
      go_wp2_with fail
      go_quiet (fail)
      go_wp2_with fail
      go_ret
      exact ⟨x, hx, rfl, ⟨i, h2, HK2.out, hi⟩, grown_drewN HG2.out _⟩
/-- a new cursor -/
def RetCur (a : Option Addr) (n cap : Nat) (w : World) (e : Ending) (w' : World) : Prop := e = .returned (.pointer (some ⟨w.heap.size, 0, none⟩)) ∧ CurAt w' w.heap.size a n cap ∧ Below w.heap.size w w'
theorem RetCur.mk {a : Option Addr} {n cap : Nat} {w : World} (h : Int) : RetCur a n cap w (.returned (.pointer (some ⟨w.heap.size, 0, none⟩))) (w.alloc (.cells #[.slice a n cap, .int .i64 0, .int .i64 h] 79)) :=
  ⟨rfl, ⟨0, h, by unfold World.alloc; simp, Nat.zero_le _⟩, (Below.refl _ _).alloc (Nat.le_refl _) _⟩
set_option maxRecDepth 20000 in
set_option maxHeartbeats 2000000 in
theorem l01New_any (a : Option Addr) (l : List UInt8) (cap : Nat) (w : World) (hl : BytesIn w a l) (hlen : l.length ≤ 2 ^ 40) :
    Calls Tryz.prog 37 #[.slice a l.length cap] w (RetCur a l.length cap w) := by
  have HL := Lib.hid hl
  clear hl
  go_enter Tryz.func37, Tryz.ntmps37
  go_wp2_with fail
  go_loop [3, 4] (fun h i => ∃ (j : Nat) (z : Int), j ≤ l.length ∧ i = .int .i64 (j : Nat) ∧ h = .int .i64 z) (fun _ i => l.length - (intOf i).toNat)
  case atStart => exact ⟨0, _, Nat.zero_le _, rfl, rfl⟩
  case round =>
    obtain ⟨j, z, hj, rfl, rfl⟩ := hrel
    by_cases hlt : j < l.length
    · obtain ⟨b, off, rfl, hb, c, hc, hcell⟩ := HL.out.cell hlt
      by_cases h4 : j < 4000
      · go_wp2_with fail
        go_round
        case rel => exact ⟨j + 1, _, by omega, by go_num, rfl⟩
        case measure => simp [intOf]; omega
      · go_wp2_with fail
        go_ret
        exact RetCur.mk _
    · go_wp2_with fail
      go_ret
      exact RetCur.mk _
theorem curNe {w : World} {a : Option Addr} {l : List UInt8} (hl : BytesIn w a l) (hne : l ≠ []) : ∀ x, a = some x → x.block < w.heap.size := by
  rintro x rfl
  obtain ⟨b, off, ha, hb, _⟩ := hl.cell (i := 0) (by cases l with | nil => exact absurd rfl hne | cons => simp)
  obtain rfl := Option.some.inj ha
  exact hb
/-- what a cursor is read with -/
structure CurOk (w : World) (B : Nat) (a : Option Addr) (l : List UInt8) (cap : Nat) : Prop where
  at_ : CurAt w B a l.length cap
  bytes : BytesIn w a l
  ne : l ≠ [] → ∀ x, a = some x → x.block ≠ B
  len : l.length ≤ 2 ^ 40
theorem CurOk.later {w w' : World} {B : Nat} {a : Option Addr} {l : List UInt8} {cap : Nat} (h : CurOk w B a l cap) (hb : Below w.heap.size w w') : CurOk w' B a l cap := ⟨h.at_.later hb, h.bytes.later hb, h.ne, h.len⟩
theorem CurOk.next {w w' : World} {B : Nat} {a : Option Addr} {l : List UInt8} {cap : Nat} (h : CurOk w B a l cap) (hc : CurAt w' B a l.length cap) (hg : w.grownBy w' (some B)) : CurOk w' B a l cap := ⟨hc, h.bytes.grown hg h.ne, h.ne, h.len⟩
theorem byte_cur {w : World} {B : Nat} {a : Option Addr} {l : List UInt8} {cap : Nat} (h : CurOk w B a l cap) :
    Calls Tryz.prog 18 #[.pointer (some ⟨B, 0, none⟩)] w fun e w' => ∃ x : Nat, x < 256 ∧ e = .returned (.int .i64 ((x : Nat) : Int)) ∧ CurOk w' B a l cap ∧ w.grownBy w' (some B) :=
  (l01Byte_any B a l cap w h.at_ h.bytes h.ne h.len).mono fun _ _ ⟨x, hx, he, hc, hg⟩ => ⟨x, hx, he, h.next hc hg, hg⟩
theorem below_curs {w0 w w' : World} {B : Nat} (h : Below w0.heap.size w0 w) (hg : w.grownBy w' (some B)) (hB : w0.heap.size ≤ B) : Below w0.heap.size w0 w' :=
  h.grown hg h.size (fun k hk => by have := Option.some.inj hk; omega)
theorem RetCur.ok {a : Option Addr} {l : List UInt8} {cap : Nat} {w w' : World} {e : Ending} (h : RetCur a l.length cap w e w') (hl : BytesIn w a l) (hlen : l.length ≤ 2 ^ 40) : CurOk w' w.heap.size a l cap :=
  ⟨h.2.1, hl.later h.2.2, fun hne x hx => Nat.ne_of_lt (curNe hl hne x hx), hlen⟩
set_option maxRecDepth 20000 in
set_option maxHeartbeats 2000000 in
theorem l31New_any (a : Option Addr) (l : List UInt8) (cap k : Nat) (w : World) (hl : BytesIn w a l) (hlen : l.length ≤ 2 ^ 40) (hk : k ≤ 1000) :
    Calls Tryz.prog 14 #[.slice a l.length cap, .int .i64 (k : Nat)] w fun e w' => e = .returned (.pointer (some ⟨w.heap.size, 0, none⟩)) ∧ CurOk w' w.heap.size a l cap ∧ Below w.heap.size w w' := by
  have HN := Lib.hid (l01New_any a l cap w hl hlen)
  have HL := Lib.hid hl
  clear hl
  go_enter Tryz.func14, Tryz.ntmps14
  go_wp2_with fail
  refine HN.out.mono ?_
  rintro e w2 hr
  obtain ⟨rfl, _⟩ := id hr
  have HC := Lib.hid (hr.ok HL.out hlen)
  have HB := Lib.hid hr.2.2
  clear hr HN
  go_wp2_with fail
  go_loopw [6] (fun i wr => ∃ j : Nat, j ≤ k ∧ i = .int .i64 (j : Nat) ∧ CurOk wr w.heap.size a l cap ∧ Below w.heap.size w wr) (fun i _ => k - (intOf i).toNat)
  case atStart => exact ⟨0, Nat.zero_le _, rfl, HC.out, HB.out⟩
  case round =>
    clear HC HB
    obtain ⟨j, hj, rfl, hc, hb⟩ := hrel
    have HC := Lib.hid hc
    have HB := Lib.hid hb
    clear hc hb
    by_cases hlt : j < k
    · go_wp2_with fail
      refine (byte_cur HC.out).mono ?_
      rintro e w3 ⟨x, hx, rfl, hc3, hg3⟩
      have HC3 := Lib.hid hc3
      have HB3 := Lib.hid (below_curs HB.out hg3 (Nat.le_refl _))
      clear hc3 hg3
      go_wp2_with fail
      go_roundw
      case rel => exact ⟨j + 1, by omega, by go_num, HC3.out, HB3.out⟩
      case measure => simp [intOf]; omega
    · go_wp2_with fail
      go_ret
      exact ⟨rfl, HC.out, HB.out⟩
set_option maxRecDepth 20000 in
set_option maxHeartbeats 2000000 in
theorem makeNum_any (a : Option Addr) (l : List UInt8) (cap k : Nat) (w : World) (hl : BytesIn w a l) (hlen : l.length ≤ 2 ^ 40) (hk : k ≤ 1000) :
    Calls Tryz.prog 5 #[.slice a l.length cap, .int .i64 (k : Nat)] w fun e w' => ∃ x : Nat, x < 65536 ∧ e = .returned (.int .i64 ((x : Nat) : Int)) ∧ Below w.heap.size w w' := by
  have HN := Lib.hid (l31New_any a l cap k w hl hlen hk)
  clear hl
  go_enter Tryz.func5, Tryz.ntmps5
  go_wp2_with fail
  refine HN.out.mono ?_
  rintro e w2 ⟨rfl, hc, hb⟩
  have HC := Lib.hid hc
  have HB := Lib.hid hb
  clear hc hb HN
  go_wp2_with fail
  refine (byte_cur HC.out).mono ?_
  rintro e w3 ⟨x, hx, rfl, hc3, hg3⟩
  have HC3 := Lib.hid hc3
  have HB3 := Lib.hid (below_curs HB.out hg3 (Nat.le_refl _))
  clear hc3 hg3
  go_wp2_with fail
  refine (byte_cur HC3.out).mono ?_
  rintro e w4 ⟨y, hy, rfl, hc4, hg4⟩
  have HB4 := Lib.hid (below_curs HB3.out hg4 (Nat.le_refl _))
  clear hc4 hg4
  go_wp2_with fail
  go_ret
  exact ⟨x * 256 + y, by omega, by go_num, HB4.out⟩
end Go.Proofs.YtgoeadgpbidgiaaGreat
namespace Go.Proofs.YtgoeadgpbidgiaaGreat
open Go.RowKit
set_option linter.unusedVariables false
theorem grown_alloc {w w1 : World} {r : Option Nat} (h : w.grownBy w1 r) (o : Obj) : w.grownBy (w1.alloc o) r := by
  have e := Below.heap_alloc w1 o
  exact ⟨h.os, h.tape, h.output, Nat.le_trans h.size (by simp), fun k hk hne => (e k (Nat.lt_of_lt_of_le hk h.size)).trans (h.block k hk hne)⟩
theorem CurOk.alloc {w : World} {B : Nat} {a : Option Addr} {l : List UInt8} {cap : Nat} (h : CurOk w B a l cap) (o : Obj) : CurOk (w.alloc o) B a l cap := h.later ((Below.refl _ _).alloc (Nat.le_refl _) _)
theorem CurOk.lt {w : World} {B : Nat} {a : Option Addr} {l : List UInt8} {cap : Nat} (h : CurOk w B a l cap) : B < w.heap.size := h.at_.lt
set_option maxHeartbeats 1000000 in
theorem l01Below_any (B n : Nat) (a : Option Addr) (l : List UInt8) (cap : Nat) (w : World) (h : CurOk w B a l cap) (hn : 1 ≤ n) (hn2 : n ≤ 256) :
    Calls Tryz.prog 32 #[.pointer (some ⟨B, 0, none⟩), .int .i64 (n : Nat)] w fun e w' => ∃ x : Nat, x < n ∧ e = .returned (.int .i64 ((x : Nat) : Int)) ∧ CurOk w' B a l cap ∧ w.grownBy w' (some B) := by
  have HB := Lib.hid (byte_cur h)
  clear h
  have h0 : ¬ (n : Int) ≤ 0 := by omega
  have h2 : (n : Int) ≤ 256 := by omega
  have hnz : ((n : Int) == 0) = false := by rw [beq_eq_false_iff_ne]; omega
  have hnz2 : ¬ (n : Int) = 0 := by omega
  go_enter Tryz.func32, Tryz.ntmps32
  go_wp2_with fail
  refine HB.out.mono ?_
  rintro e w2 ⟨x, hx, rfl, hc2, hg2⟩
  have HC := Lib.hid hc2
  have HG := Lib.hid hg2
  clear hc2 hg2 HB
  go_wp2_with fail
  go_ret
  exact ⟨x % n, Nat.mod_lt _ (by omega), ret_int (by first | rfl | simp), HC.out, HG.out⟩
set_option maxHeartbeats 400000 in
theorem l01Once_any (B n : Nat) (a : Option Addr) (l : List UInt8) (cap : Nat) (w : World) (h : CurOk w B a l cap) (hn : 1 ≤ n) (hn2 : n ≤ 256) :
    Calls Tryz.prog 31 #[.pointer (some ⟨B, 0, none⟩), .int .i64 (n : Nat)] w fun e w' => ∃ b : Bool, e = .returned (.bool b) ∧ CurOk w' B a l cap ∧ w.grownBy w' (some B) := by
  have HB := Lib.hid (l01Below_any B n a l cap w h hn hn2)
  clear h
  go_enter Tryz.func31, Tryz.ntmps31
  go_wp2_with fail
  refine HB.out.mono ?_
  rintro e w2 ⟨x, hx, rfl, hc2, hg2⟩
  have HC := Lib.hid hc2
  have HG := Lib.hid hg2
  clear hc2 hg2 HB
  go_wp2_with fail
  go_ret
  exact ⟨_, rfl, HC.out, HG.out⟩
theorem StrsIn.grownB {w w' : World} {B : Nat} {a : Option Addr} {l : List ByteArray} (h : StrsIn w a l) (hg : w.grownBy w' (some B)) (hne : ∀ x, a = some x → x.block ≠ B) : StrsIn w' a l := by
  rcases h with h | ⟨b, off, ha, hc⟩
  · exact .inl h
  · refine .inr ⟨b, off, ha, fun i hi => ?_⟩
    rw [World.cell?_of_block (w := w) (hg.block b (World.block_lt_of_cell? w _ (hc i hi)) (fun e => hne _ ha (Option.some.inj e)))]
    exact hc i hi
set_option maxHeartbeats 1000000 in
theorem l01Str_any (B : Nat) (a : Option Addr) (l : List UInt8) (cap : Nat) (ls : List ByteArray) (a2 : Option Addr) (cap2 : Nat) (w : World) (h : CurOk w B a l cap) (hl : StrsIn w a2 ls) (hne : ∀ x, a2 = some x → x.block ≠ B) (h1 : 1 ≤ ls.length) (h2 : ls.length ≤ 256) :
    Calls Tryz.prog 34 #[.pointer (some ⟨B, 0, none⟩), .slice a2 ls.length cap2] w fun e w' => ∃ i : Nat, i < ls.length ∧ e = .returned (.string (nthS ls i)) ∧ CurOk w' B a l cap ∧ w.grownBy w' (some B) := by
  have HB := Lib.hid (l01Below_any B ls.length a l cap w h h1 h2)
  have HL := Lib.hid hl
  have HN := Lib.hid hne
  clear h hl hne
  go_enter Tryz.func34, Tryz.ntmps34
  go_wp2_with fail
  refine HB.out.mono ?_
  rintro e w2 ⟨x, hx, rfl, hc2, hg2⟩
  obtain ⟨b, off, rfl, hb, hcell⟩ := (HL.out.grownB hg2 HN.out).cell hx
  have c1 := hcell x hx
  have HC := Lib.hid hc2
  have HG := Lib.hid hg2
  clear hc2 hg2 HB hcell
  go_wp2_with fail
  go_ret
  exact ⟨x, hx, rfl, HC.out, HG.out⟩
theorem StrsIn.lit (w : World) (ls : List ByteArray) : StrsIn (w.alloc (.cells (strVals ls).toArray 9)) (some ⟨w.heap.size, 0, none⟩) ls := by
  refine .inr ⟨_, _, rfl, fun i hi => ?_⟩
  rw [Nat.zero_add, World.cell?_alloc_new]
  have h2 : i < (strVals ls).length := by simpa [strVals] using hi
  show (strVals ls).toArray[i]? = some _
  rw [List.getElem?_toArray, List.getElem?_eq_getElem h2]
  rfl
/-- a literal row of strings is drawn from -/
theorem strLit_any (B : Nat) (a : Option Addr) (l : List UInt8) (cap : Nat) (ls : List ByteArray) (w : World) (h : CurOk w B a l cap) (h1 : 1 ≤ ls.length) (h2 : ls.length ≤ 256) :
    Calls Tryz.prog 34 #[.pointer (some ⟨B, 0, none⟩), .slice (some ⟨w.heap.size, 0, none⟩) ls.length ls.length] (w.alloc (.cells (strVals ls).toArray 9)) fun e w' => ∃ i : Nat, i < ls.length ∧ e = .returned (.string (nthS ls i)) ∧ CurOk w' B a l cap ∧ w.grownBy w' (some B) :=
  (l01Str_any B a l cap ls (some ⟨w.heap.size, 0, none⟩) ls.length _ (h.alloc _) (StrsIn.lit w ls) (fun x hx => by
    obtain rfl := Option.some.inj hx
    have := h.lt
    show w.heap.size ≠ B; omega) h1 h2).mono fun _ _ ⟨i, hi, he, hc, hg⟩ => ⟨i, hi, he, hc, grown_tr (grown_alloc ⟨rfl, rfl, rfl, Nat.le_refl _, fun _ _ _ => rfl⟩ _) hg⟩
theorem allB_app (p : UInt8 → Bool) (u v : ByteArray) : allB p (u ++ v) = (allB p u && allB p v) := by simp [allB]
set_option maxRecDepth 20000 in
set_option maxHeartbeats 2000000 in
theorem l02Draw_any (B k most : Nat) (a : Option Addr) (l : List UInt8) (cap : Nat) (w : World) (h : CurOk w B a l cap) (hk1 : 1 ≤ k) (hk : k ≤ 4) (hm : most ≤ 16) :
    Calls Tryz.prog 24 #[.pointer (some ⟨B, 0, none⟩), .int .i64 (k : Nat), .int .i64 (most : Nat)] w fun e w' => ∃ s : ByteArray, (allB (letB k) s = true ∧ s.size ≤ most) ∧ e = .returned (.string s) ∧ CurOk w' B a l cap ∧ w.grownBy w' (some B) := by
  have kc := convC
  have HN : Hid (Calls Tryz.prog 32 #[.pointer (some ⟨B, 0, none⟩), .int .i64 ((most : Int) + 1)] w fun e w' => ∃ x : Nat, x < most + 1 ∧ e = .returned (.int .i64 ((x : Nat) : Int)) ∧ CurOk w' B a l cap ∧ w.grownBy w' (some B)) := Lib.hid (l01Below_any B (most + 1) a l cap w h (by omega) (by omega))
  clear h
  go_enter Tryz.func24, Tryz.ntmps24
  go_wp2_with fail
  refine HN.out.mono ?_
  rintro e w3 ⟨x, hx, rfl, hc3, hg3⟩
  have HC3 := Lib.hid hc3
  have HG3 := Lib.hid hg3
  clear hc3 hg3 HN
  go_wp2_with fail
  go_loopw [7, 8] (fun u v wr => ∃ (j : Nat) (s : ByteArray), v = .int .i64 ((j : Nat) : Int) ∧ u = .string s ∧ Hid (allB (letB k) s = true) ∧ s.size + j ≤ most ∧ CurOk wr B a l cap ∧ w.grownBy wr (some B)) (fun _ v _ => (intOf v).toNat)
  case atStart => exact ⟨x, ⟨#[]⟩, rfl, rfl, Lib.hid rfl, by show 0 + x ≤ most; omega, HC3.out, HG3.out⟩
  case round =>
    clear HC3 HG3
    obtain ⟨j, s, rfl, rfl, hs, hsz, hc, hg⟩ := hrel
    have HC := Lib.hid hc
    have HG := Lib.hid hg
    clear hc hg
    by_cases hj : 0 < j
    · have HS := Lib.hid (l01Below_any B k a l cap wr HC.out hk1 (by omega))
      have hji : (0 : Int) < (j : Int) := by omega
      go_wp2_with fail
      refine HS.out.mono ?_
      rintro e w5 ⟨i, hi, rfl, hc5, hg5⟩
      have hu : IntKind.u8.wrap (97 + (i : Int)) = 97 + (i : Int) := by simp [IntKind.wrap, IntKind.signed, IntKind.bits]; omega
      have HC5 := Lib.hid (hc5.alloc (.cells #[.int .u8 (97 + (i : Int))] 5))
      have HG5 := Lib.hid (grown_alloc (grown_tr HG.out hg5) (.cells #[.int .u8 (97 + (i : Int))] 5))
      have hlb : allB (letB k) (letterN i) = true := by
        unfold allB
        have : (letterN i).data.toList = [UInt8.ofNat (97 + i)] := by
          show [UInt8.ofNat ((97 + (i : Int)).toNat)] = _
          rw [show (97 + (i : Int)).toNat = 97 + i by omega]
        rw [this]
        show ([UInt8.ofNat (97 + i)].all (letB k)) = true
        have hc : (UInt8.ofNat (97 + i)).toNat = 97 + i := by rw [UInt8.toNat_ofNat']; omega
        simp only [List.all_cons, List.all_nil, Bool.and_true, letB, inB, hc]
        simp; omega
      have HA : Hid (allB (letB k) (s ++ oneC (97 + (i : Int))) = true) := Lib.hid (by
        rw [allB_app, hs.out]
        exact hlb)
      have hsum : ¬ 9223372036854775807 < s.size + (oneC (97 + (i : Int))).size := by
        show ¬ 9223372036854775807 < s.size + 1; omega
      have hss : (s ++ oneC (97 + (i : Int))).size + (j - 1) ≤ most := by
        rw [ByteArray.size_append]
        show s.size + 1 + (j - 1) ≤ most; omega
      have HSS := Lib.hid hss
      clear hc5 hg5 HS hss hlb
      go_wp2_with fail
      go_roundw
      case rel => exact ⟨j - 1, _, by congr 1; omega, rfl, HA, HSS.out, HC5.out, HG5.out⟩
      case measure => simp [intOf]; omega
    · have hji : ¬ (0 : Int) < (j : Int) := by omega
      go_wp2_with fail
      go_ret
      exact ⟨s, ⟨hs.out, by omega⟩, rfl, HC.out, HG.out⟩
end Go.Proofs.YtgoeadgpbidgiaaGreat
namespace Go.Proofs.YtgoeadgpbidgiaaGreat
open Go.RowKit
set_option linter.unusedVariables false
theorem pow64 {kn n : Nat} (hk : kn ≤ 4) (hn : n ≤ 3) : kn ^ n ≤ 64 := by
  have h1 := Nat.pow_le_pow_left hk n
  have h2 := Nat.pow_le_pow_right (show 0 < 4 by omega) hn
  have : 4 ^ 3 = 64 := rfl
  omega
set_option maxRecDepth 20000 in
set_option maxHeartbeats 2000000 in
theorem implSearchOk_any (kn : Nat) (R : List RulD) (a : Option Addr) (cap n : Nat) (w : World) (hl : RulesIn w a R) (hs : sysP (kn : Int) R) (hn : n ≤ 3) :
    Calls Tryz.prog 12 #[.agg #[.int .i64 (kn : Int), .slice a R.length cap], .int .i64 (n : Nat)] w fun e w' => e = .returned (.bool true) ∧ Below w.heap.size w w' := by
  have h12 : R.length ≤ 12 := hs.1.1.2
  have hk4 : kn ≤ 4 := by have := hs.1.1.1; omega
  have hSz : SzR R := szR_of hs
  have HRO : Hid (∀ W, RulesIn W a R → Calls Tryz.prog 30 #[.agg #[.int .i64 (kn : Int), .slice a R.length cap]] W fun e w' => e = .returned (.bool true) ∧ Below W.heap.size W w') := Lib.hid (fun W hW => by
    refine (implRulesOk_any (kn : Int) R a cap W hW (by omega) hSz).mono ?_
    rintro e w' ⟨b, hb, rfl, hb2⟩
    rw [hb.2 hs.1]
    exact ⟨rfl, hb2⟩)
  have HWI : Hid (∀ W, Calls Tryz.prog 22 #[.int .i64 (n : Nat), .int .i64 0, .int .i64 8] W fun e w' => e = .returned (.bool true) ∧ W = w') := Lib.hid (fun W => by
    have := within_any (n : Nat) 0 8 W
    rw [show inB ((n : Nat) : Int) 0 8 = true by simp [inB]; omega] at this
    exact this)
  have HPW := Lib.hid (fun j (hj : j ≤ n) => pow64 (n := j) hk4 (by omega))
  have HB := Lib.hid (alloc_belowS w (.cells #[.int .i64 (kn : Int), .slice a R.length cap] 25))
  have HX : Hid (∀ W, Below (w.alloc (.cells #[.int .i64 (kn : Int), .slice a R.length cap] 25)).heap.size (w.alloc (.cells #[.int .i64 (kn : Int), .slice a R.length cap] 25)) W → (W.cell? ⟨w.heap.size, 0, none⟩ = some (.int .i64 (kn : Int)) ∧ W.cell? ⟨w.heap.size, 1, none⟩ = some (.slice a R.length cap)) ∧ RulesIn W a R) := Lib.hid (fun W hW => ⟨⟨by rw [hW.cell (by simp)]; simp, by rw [hW.cell (by simp)]; simp⟩, (hl.later HB.out).later hW⟩)
  clear hl hs hSz
  go_enter Tryz.func12, Tryz.ntmps12
  go_upto_region 1 with fail
  generalize w.alloc (.cells #[.int .i64 (kn : Int), .slice a R.length cap] 25) = w1 at *
  obtain ⟨⟨s0, s1⟩, hR1⟩ := HX.out w1 (Below.refl _ _)
  have HR1 := Lib.hid hR1
  clear hR1
  go_wp2_with fail
  refine (HRO.out _ HR1.out).mono ?_
  rintro e w2 ⟨rfl, hb2⟩
  have HB2 := Lib.hid hb2
  clear s0 s1 hb2
  go_wp2_with fail
  refine (HWI.out _).mono ?_
  rintro e w3 ⟨rfl, rfl⟩
  obtain ⟨⟨s0, s1⟩, -⟩ := HX.out w2 HB2.out
  go_wp2_with fail
  go_loopw [5, 15] (fun v c wr => ∃ j : Nat, j ≤ n ∧ c = .int .i64 (j : Nat) ∧ v = .int .i64 ((kn ^ j : Nat) : Int) ∧ wr = w2) (fun _ c _ => n - (intOf c).toNat)
  case atStart => exact ⟨0, Nat.zero_le _, rfl, rfl, rfl⟩
  case round =>
    obtain ⟨j, hj, rfl, rfl, hw⟩ := hrel
    rw [hw]
    clear hw
    have hp := HPW.out j hj
    by_cases hlt : j < n
    · have hjl : (j : Int) < (n : Int) := by omega
      have hp2 := HPW.out (j + 1) hlt
      have HE : Hid (kn ^ (j + 1) = kn ^ j * kn) := Lib.hid (Nat.pow_succ kn j)
      obtain ⟨q, hq⟩ : ∃ q, kn ^ j = q := ⟨_, rfl⟩
      rw [hq] at hp
      have HQE : Hid (kn ^ (j + 1) = q * kn) := Lib.hid (by rw [HE.out, hq])
      rw [HQE.out] at hp2
      rw [hq]
      have hml : ((q : Int) * (kn : Int)) = ((q * kn : Nat) : Int) := by rw [Int.natCast_mul]
      obtain ⟨r, hr⟩ : ∃ r, q * kn = r := ⟨_, rfl⟩
      have HRE : Hid (kn ^ (j + 1) = r) := Lib.hid (by rw [HQE.out, hr])
      rw [hr] at hml hp2
      clear hq hr
      have hrr : (r : Int) ≤ 64 := by omega
      go_wp2_with fail
      go_roundw
      case rel => exact ⟨j + 1, by omega, by go_num, by rw [HRE.out], trivial⟩
      case measure => simp [intOf]; omega
    · obtain rfl : j = n := by omega
      have hle : ((kn ^ j : Nat) : Int) ≤ 1024 := by omega
      generalize kn ^ j = q at *
      go_wp2_with fail
      go_ret
      exact ⟨by first | rfl | simp [hle], Below.now HB.out HB2.out⟩
set_option maxRecDepth 20000 in
set_option maxHeartbeats 2000000 in
theorem implIsSearched_any (kn : Nat) (R : List RulD) (a : Option Addr) (cap n : Nat) (u : ByteArray) (w : World) (hl : RulesIn w a R) (hs : sysP (kn : Int) R) (hn : n ≤ 3) (hu : wordOkB (kn : Int) u = true) (hun : u.size ≤ n) :
    Calls Tryz.prog 25 #[.agg #[.int .i64 (kn : Int), .slice a R.length cap], .string u, .int .i64 (n : Nat)] w fun e w' => e = .returned (.bool true) ∧ Below w.heap.size w w' := by
  have HSO := Lib.hid (fun W h => implSearchOk_any kn R a cap n W h hs hn)
  have HWO : Hid (∀ W, Calls Tryz.prog 50 #[.int .i64 (kn : Int), .string u] W fun e w' => e = .returned (.bool true) ∧ W = w') := Lib.hid (fun W => by
    have := implWordOk_any (kn : Int) u W (by unfold maxLen; omega)
    rw [hu] at this
    exact this)
  have HB := Lib.hid (alloc_belowS w (.cells #[.int .i64 (kn : Int), .slice a R.length cap] 25))
  have HX : Hid (∀ W, Below (w.alloc (.cells #[.int .i64 (kn : Int), .slice a R.length cap] 25)).heap.size (w.alloc (.cells #[.int .i64 (kn : Int), .slice a R.length cap] 25)) W → (W.cell? ⟨w.heap.size, 0, none⟩ = some (.int .i64 (kn : Int)) ∧ W.cell? ⟨w.heap.size, 1, none⟩ = some (.slice a R.length cap)) ∧ RulesIn W a R) := Lib.hid (fun W hW => ⟨⟨by rw [hW.cell (by simp)]; simp, by rw [hW.cell (by simp)]; simp⟩, (hl.later HB.out).later hW⟩)
  have hle : (u.size : Int) ≤ (n : Int) := by omega
  clear hl hs hu
  go_enter Tryz.func25, Tryz.ntmps25
  go_upto_region 1 with fail
  generalize w.alloc (.cells #[.int .i64 (kn : Int), .slice a R.length cap] 25) = w1 at *
  obtain ⟨⟨s0, s1⟩, hR1⟩ := HX.out w1 (Below.refl _ _)
  have HR1 := Lib.hid hR1
  clear hR1
  go_wp2_with fail
  refine (HSO.out _ HR1.out).mono ?_
  rintro e w2 ⟨rfl, hb2⟩
  have HB2 := Lib.hid hb2
  clear s0 s1 hb2
  obtain ⟨⟨s0, s1⟩, -⟩ := HX.out w2 HB2.out
  go_wp2_with fail
  refine (HWO.out _).mono ?_
  rintro e w3 ⟨rfl, rfl⟩
  go_wp2_with fail
  go_ret
  exact ⟨by first | rfl | simp [hle], Below.now HB.out HB2.out⟩
set_option maxHeartbeats 1000000 in
theorem implGrowthOf_any (kn n : Nat) (R : List RulD) (a : Option Addr) (cap : Nat) (w : World) (hl : RulesIn w a R) (hs : sysP (kn : Int) R) (hn : n ≤ 3) :
    Calls Tryz.prog 7 #[.agg #[.int .i64 (kn : Int), .slice a R.length cap], .int .i64 (n : Nat)] w (RetSl 3 1 (growL R kn n).length (zVals (growL R kn n)) w) := by
  have h12 : R.length ≤ 12 := hs.1.1.2
  have hSz : SzR R := szR_of hs
  have HSO : Hid (∀ W, RulesIn W a R → Calls Tryz.prog 21 #[.agg #[.int .i64 (kn : Int), .slice a R.length cap]] W fun e w' => e = .returned (.bool true) ∧ Below W.heap.size W w') := Lib.hid (fun W hW => by
    refine (implSystemOk_any (kn : Int) R a cap W hW (by omega) hSz).mono ?_
    rintro e w' ⟨b, hb, rfl, hb2⟩
    rw [hb.2 hs]
    exact ⟨rfl, hb2⟩)
  have HWI : Hid (∀ W, Calls Tryz.prog 22 #[.int .i64 (n : Nat), .int .i64 0, .int .i64 16] W fun e w' => e = .returned (.bool true) ∧ W = w') := Lib.hid (fun W => by
    have := within_any (n : Nat) 0 16 W
    rw [show inB ((n : Nat) : Int) 0 16 = true by simp [inB]; omega] at this
    exact this)
  have HGR := Lib.hid (fun W h => growth_any kn n R a cap W h (by omega) hs (by omega))
  have HB := Lib.hid (alloc_belowS w (.cells #[.int .i64 (kn : Int), .slice a R.length cap] 25))
  have HX : Hid (∀ W, Below (w.alloc (.cells #[.int .i64 (kn : Int), .slice a R.length cap] 25)).heap.size (w.alloc (.cells #[.int .i64 (kn : Int), .slice a R.length cap] 25)) W → (W.cell? ⟨w.heap.size, 0, none⟩ = some (.int .i64 (kn : Int)) ∧ W.cell? ⟨w.heap.size, 1, none⟩ = some (.slice a R.length cap)) ∧ RulesIn W a R) := Lib.hid (fun W hW => ⟨⟨by rw [hW.cell (by simp)]; simp, by rw [hW.cell (by simp)]; simp⟩, (hl.later HB.out).later hW⟩)
  clear hl hs hSz
  go_enter Tryz.func7, Tryz.ntmps7
  go_upto_region 1 with fail
  generalize w.alloc (.cells #[.int .i64 (kn : Int), .slice a R.length cap] 25) = w1 at *
  obtain ⟨⟨s0, s1⟩, hR1⟩ := HX.out w1 (Below.refl _ _)
  have HR1 := Lib.hid hR1
  clear hR1
  go_wp2_with fail
  refine (HSO.out _ HR1.out).mono ?_
  rintro e w2 ⟨rfl, hb2⟩
  have HB2 := Lib.hid hb2
  clear s0 s1 hb2
  go_wp2_with fail
  refine (HWI.out _).mono ?_
  rintro e w3 ⟨rfl, rfl⟩
  obtain ⟨⟨s0, s1⟩, hR2⟩ := HX.out w2 HB2.out
  have HR2 := Lib.hid hR2
  clear hR2
  go_wp2_with fail
  refine (HGR.out _ HR2.out).mono ?_
  rintro e w4 ⟨a4, c4, rfl, ho, hb4⟩
  have F : Hid (RetSl 3 1 (growL R kn n).length (zVals (growL R kn n)) w (.returned (.slice a4 (growL R kn n).length c4)) w4) := Lib.hid ⟨a4, c4, rfl, owns_mono ho (by have := HB.out.size; have := HB2.out.size; omega), Below.now HB.out (Below.now HB2.out hb4)⟩
  clear ho hb4 s0 s1
  generalize (growL R kn n).length = gn at *
  go_wp2_with fail
  go_ret
  exact F.out
set_option maxHeartbeats 1000000 in
theorem makeWord_any (a : Option Addr) (l : List UInt8) (cap i kn most : Nat) (w : World) (hl : BytesIn w a l) (hlen : l.length ≤ 2 ^ 40) (hi : i ≤ 1000) (hk1 : 1 ≤ kn) (hk4 : kn ≤ 4) (hm : most ≤ 16) :
    Calls Tryz.prog 8 #[.slice a l.length cap, .int .i64 (i : Nat), .int .i64 (kn : Int), .int .i64 (most : Nat)] w fun e w' => ∃ s : ByteArray, (allB (letB (kn : Int)) s = true ∧ s.size ≤ most) ∧ e = .returned (.string s) ∧ Below w.heap.size w w' := by
  have HN := Lib.hid (l31New_any a l cap i w hl hlen hi)
  have HD := Lib.hid (fun B W h => l02Draw_any B kn most a l cap W h hk1 hk4 hm)
  have m1 : min (kn : Int) 4 = (kn : Int) := by omega
  have m2 : max (1 : Int) (kn : Int) = (kn : Int) := by omega
  have m3 : min (most : Int) 16 = (most : Int) := by omega
  have m4 : max (0 : Int) (most : Int) = (most : Int) := by omega
  clear hl
  go_enter Tryz.func8, Tryz.ntmps8
  go_wp2_with fail
  refine HN.out.mono ?_
  rintro e w2 ⟨rfl, hc, hb2⟩
  have HB2 := Lib.hid hb2
  have HC := Lib.hid hc
  clear hc hb2
  go_wp2_with fail
  refine (HD.out _ _ HC.out).mono ?_
  rintro e w3 ⟨s, hs, rfl, hc3, hg3⟩
  have HS := Lib.hid hs
  have HB3 := Lib.hid (below_curs HB2.out hg3 (Nat.le_refl _))
  clear hs hc3 hg3
  go_wp2_with fail
  go_ret
  exact ⟨s, HS.out, rfl, HB3.out⟩
def sumZ (l : List Int) (j : Nat) : Int := (l.take j).sum
theorem sumZ_succ {l : List Int} {j : Nat} (h : j < l.length) : sumZ l (j + 1) = sumZ l j + nthZ l j := by
  unfold sumZ
  rw [List.take_add_one, List.getElem?_eq_getElem h, nthZ_lt h, List.sum_append]
  simp
set_option maxHeartbeats 1000000 in
theorem lawSum_any (l : List Int) (a : Option Addr) (cap : Nat) (w : World) (hl : IntsIn w a l) (hlen : l.length ≤ 1000) (hs : ∀ j, j ≤ l.length → 0 ≤ sumZ l j ∧ sumZ l j ≤ 1000000000) :
    Calls Tryz.prog 11 #[.slice a l.length cap] w fun e w' => e = .returned (.int .i64 l.sum) ∧ w = w' := by
  have HL := Lib.hid hl
  have HS := Lib.hid hs
  clear hl hs
  go_enter Tryz.func11, Tryz.ntmps11
  go_wp2_with fail
  go_loopw [3, 8] (fun v c wr => ∃ j : Nat, j ≤ l.length ∧ c = .int .i64 (j : Nat) ∧ v = .int .i64 (sumZ l j) ∧ wr = w) (fun _ c _ => l.length - (intOf c).toNat)
  case atStart => exact ⟨0, Nat.zero_le _, rfl, rfl, rfl⟩
  case round =>
    obtain ⟨j, hj, rfl, rfl, hw⟩ := hrel
    rw [hw]
    clear hw
    by_cases hlt : j < l.length
    · obtain ⟨b, off, rfl, hb, hc⟩ := HL.out.cell hlt
      have c0 := hc j hlt
      have hjl : (j : Int) < (l.length : Int) := by omega
      have HE := Lib.hid (sumZ_succ hlt)
      obtain ⟨h1, h2⟩ := HS.out j hj
      obtain ⟨h3, h4⟩ := HS.out (j + 1) hlt
      rw [HE.out] at h3 h4
      generalize nthZ l j = z at *
      generalize sumZ l j = y at *
      clear hc
      go_wp2_with fail
      go_roundw
      case rel => exact ⟨j + 1, by omega, by go_num, by rw [HE.out], trivial⟩
      case measure => simp [intOf]; omega
    · obtain rfl : j = l.length := by omega
      have HE : Hid (sumZ l l.length = l.sum) := Lib.hid (by unfold sumZ; rw [List.take_length])
      rw [HE.out]
      go_wp2_with fail
      go_ret
      exact ⟨rfl, rfl⟩
end Go.Proofs.YtgoeadgpbidgiaaGreat
