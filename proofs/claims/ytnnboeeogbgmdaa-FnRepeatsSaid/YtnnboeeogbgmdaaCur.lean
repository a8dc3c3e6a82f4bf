/-
  The reference's source of numbers: a cursor over bytes.
-/
import Derived.Test.YtnnboeeogbgmdaaOwn
import Derived.Laws.BitsLemmas
import Derived.Laws.BitsAllLaws
import Derived.Deep.DeepCutAuto
namespace Go.Proofs.Ytnnboeeogbgmdaa
open Go.RowKit
set_option linter.unusedVariables false
theorem and255 (n : Int) : bits .and .i64 n 255 = n % 256 := by
  have h255 : (BitVec.ofInt 64 255).toNat = 2 ^ 8 - 1 := by decide
  have key : (BitVec.ofInt 64 n &&& BitVec.ofInt 64 255).toNat = (n % ((2 ^ 64 : Nat) : Int)).toNat % 2 ^ 8 := by
    rw [BitVec.toNat_and, BitVec.toNat_ofInt, h255, Nat.and_two_pow_sub_one_eq_mod]
  show IntKind.i64.wrap ((BitVec.ofInt 64 n &&& BitVec.ofInt 64 255).toNat : Nat) = n % 256
  rw [key, IntKind.wrap_i64]
  omega
/-- a slice of bytes -/
def BytesIn (w : World) (a : Option Addr) (l : List UInt8) : Prop := CellsIn w a (l.map fun c => Value.int .u8 (c.toNat : Int))
theorem BytesIn.later {w w' : World} {a : Option Addr} {l : List UInt8} (h : BytesIn w a l) (hb : Below w.heap.size w w') : BytesIn w' a l := CellsIn.later h hb
theorem BytesIn.cell {w : World} {a : Option Addr} {l : List UInt8} (h : BytesIn w a l) {i : Nat} (hi : i < l.length) :
    ∃ b off, a = some ⟨b, off, none⟩ ∧ b < w.heap.size ∧ ∃ c : Nat, c < 256 ∧ w.cell? ⟨b, off + i, none⟩ = some (.int .u8 (c : Nat)) := by
  rcases h with h | ⟨b, off, ha, hc⟩
  · have : l = [] := by simpa using h
    subst this; simp at hi
  · have h1 := hc i (by simpa using hi)
    rw [List.getElem_map] at h1
    exact ⟨b, off, ha, World.block_lt_of_cell? w _ h1, l[i].toNat, l[i].toNat_lt, h1⟩
/-- a cursor in block B over n bytes -/
def CurAt (w : World) (B : Nat) (a : Option Addr) (n cap : Nat) : Prop := ∃ (i : Nat) (h : Int), w.heap[B]? = some (.cells #[.slice a n cap, .int .i64 (i : Nat), .int .i64 h] 77 (0, 0)) ∧ i ≤ n
theorem CurAt.lt {w : World} {B : Nat} {a : Option Addr} {n cap : Nat} (h : CurAt w B a n cap) : B < w.heap.size := by
  obtain ⟨i, h, h1, _⟩ := h
  exact (Array.getElem?_eq_some_iff.1 h1).1
theorem CurAt.later {w w' : World} {B : Nat} {a : Option Addr} {n cap : Nat} (h : CurAt w B a n cap) (hb : Below w.heap.size w w') : CurAt w' B a n cap := by
  have hl := h.lt
  obtain ⟨i, h, h1, h2⟩ := h
  exact ⟨i, h, by rw [hb.block B hl]; exact h1, h2⟩
theorem BytesIn.grown {w w' : World} {B : Nat} {a : Option Addr} {l : List UInt8} (h : BytesIn w a l) (hg : w.grownBy w' (some B)) (hB : l ≠ [] → ∀ x, a = some x → x.block ≠ B) : BytesIn w' a l := by
  rcases h with h | ⟨b, off, ha, hc⟩
  · exact .inl h
  · refine .inr ⟨b, off, ha, fun i hi => ?_⟩
    rw [World.cell?_of_block (w := w) (hg.block b (World.block_lt_of_cell? w _ (hc i hi)) (fun e => hB (fun e2 => by subst e2; simp at hi) _ ha (Option.some.inj e)))]
    exact hc i hi
/-- behind a byte's first steps -/
def CurP (w : World) (B : Nat) (a : Option Addr) (n cap i : Nat) (v : Value) (wx : World) : Prop := ∃ (x : Nat) (h2 : Int), x < 256 ∧ v = .int .i64 ((x : Nat) : Int) ∧ wx.heap[B]? = some (.cells #[.slice a n cap, .int .i64 (i : Nat), .int .i64 h2] 77 (0, 0)) ∧ w.grownBy wx (some B)
theorem CurP.mk {w : World} {B : Nat} {a : Option Addr} {n cap i : Nat} {v h2 : Int} {wx : World} (hb : wx.heap[B]? = some (.cells #[.slice a n cap, .int .i64 (i : Nat), .int .i64 h2] 77 (0, 0))) (hg : w.grownBy wx (some B)) : CurP w B a n cap i (.int .i64 (v % 256)) wx :=
  ⟨(v % 256).toNat, h2, by omega, by rw [Int.toNat_of_nonneg (by omega)], hb, hg⟩
theorem cellsCur {w : World} {B : Nat} {x y z : Value} {T : TypeId} (h : w.heap[B]? = some (.cells #[x, y, z] T (0, 0))) : w.cell? ⟨B, 0, none⟩ = some x ∧ w.cell? ⟨B, 1, none⟩ = some y ∧ w.cell? ⟨B, 2, none⟩ = some z ∧ (∀ i, w.frozen? ⟨B, i, none⟩ = false) := by
  refine ⟨by rw [cell_of_row _ _ 0 _ _ _ h]; rfl, by rw [cell_of_row _ _ 1 _ _ _ h]; rfl, by rw [cell_of_row _ _ 2 _ _ _ h]; rfl, fun i => by simp [World.frozen?, h]⟩
theorem setCur2 {w : World} {B : Nat} {x y z : Value} {T : TypeId} (h : w.heap[B]? = some (.cells #[x, y, z] T (0, 0))) (v : Value) : (w.setCell ⟨B, 2, none⟩ v).heap[B]? = some (.cells #[x, y, v] T (0, 0)) := by
  unfold World.setCell
  rw [Array.getElem?_modify, if_pos rfl, h]
  rfl
theorem setCur1 {w : World} {B : Nat} {x y z : Value} {T : TypeId} (h : w.heap[B]? = some (.cells #[x, y, z] T (0, 0))) (v : Value) : (w.setCell ⟨B, 1, none⟩ v).heap[B]? = some (.cells #[x, v, z] T (0, 0)) := by
  unfold World.setCell
  rw [Array.getElem?_modify, if_pos rfl, h]
  rfl
theorem setGrown (w : World) (B o : Nat) (v : Value) : w.grownBy (w.setCell ⟨B, o, none⟩ v) (some B) := by
  have hszc : (w.setCell ⟨B, o, none⟩ v).heap.size = w.heap.size := by simp
  exact ⟨rfl, rfl, rfl, by rw [hszc]; exact Nat.le_refl _, fun k hk hne => by
    unfold World.setCell
    rw [Array.getElem?_modify, if_neg (fun e : B = k => hne (by rw [e]))]⟩
theorem grown_tr {w w1 w2 : World} {r : Option Nat} (h : w.grownBy w1 r) (h' : w1.grownBy w2 r) : w.grownBy w2 r :=
  ⟨h'.os.trans h.os, h'.tape.trans h.tape, h'.output.trans h.output, Nat.le_trans h.size h'.size, fun k hk hne => (h'.block k (Nat.lt_of_lt_of_le hk h.size) hne).trans (h.block k hk hne)⟩
theorem grown_drewN {w w1 : World} {r : Option Nat} (h : w.grownBy w1 r) (n : Nat) : w.grownBy (w1.drewN n) r := ⟨h.os, h.tape, h.output, h.size, h.block⟩
/-- what a byte's call leaves -/
def RetByte (B : Nat) (a : Option Addr) (n cap : Nat) (w : World) (e : Ending) (w' : World) : Prop := ∃ x : Nat, x < 256 ∧ e = .returned (.int .i64 ((x : Nat) : Int)) ∧ CurAt w' B a n cap ∧ w.grownBy w' (some B)
set_option maxRecDepth 20000 in
set_option maxHeartbeats 2000000 in
theorem l01Byte_any (B : Nat) (a : Option Addr) (l : List UInt8) (cap : Nat) (w : World) (hc : CurAt w B a l.length cap) (hl : BytesIn w a l) (hB : l ≠ [] → ∀ x, a = some x → x.block ≠ B) (hlen : l.length ≤ 2 ^ 40) :
    Calls Try.prog 27 #[.pointer (some ⟨B, 0, none⟩)] w (RetByte B a l.length cap w) := by
  obtain ⟨i, h, hblk, hi⟩ := hc
  have h255 := and255
  obtain ⟨c0, c1, c2, cf⟩ := cellsCur hblk
  have cf2 := cf 2
  have HB2 := Lib.hid (fun v => setCur2 hblk v)
  have g0 : ∀ v, (w.setCell ⟨B, 2, none⟩ v).cell? ⟨B, 2, none⟩ = some v := fun v => (cellsCur (HB2.out v)).2.2.1
  clear cf
  have HL := Lib.hid hl
  have HBB := Lib.hid hB
  clear hl hB
  go_enter Try.func27, Try.ntmps27
  go_upto_region 2 with fail
  go_cut [3] (fun v wx => CurP w B a l.length cap i v wx)
  case first =>
    go_quiet (fail)
    go_wp2_with fail
    go_meet
    exact CurP.mk (by simpa using HB2.out _) (grown_drewN (setGrown _ _ _ _) _)
  case rest =>
    obtain ⟨x, h2, hx, rfl, hblk2, hg2⟩ := hcut
    have HG2 := Lib.hid hg2
    have HL2 := Lib.hid (HL.out.grown hg2 HBB.out)
    have HK2 := Lib.hid hblk2
    clear c0 c1 c2 cf2 HB2 g0 hblk hg2 HL
    obtain ⟨c0, c1, c2, cf⟩ := cellsCur hblk2
    have cf1 := cf 1
    clear cf hblk2
    by_cases hlt : i < l.length
    · obtain ⟨b, off, rfl, hb, c, hc, hcell⟩ := HL2.out.cell hlt
      have hil : (i : Int) < (l.length : Int) := by omega
      have hi0 : (0 : Int) ≤ (i : Int) := by omega
      go_wp2_with fail
      go_quiet (fail)
      go_upto_region 4 with fail
      go_cut [3] (fun v wx => CurP w B (some ⟨b, off, none⟩) l.length cap i v wx)
      case first =>
        go_quiet (fail)
        go_wp2_with fail
        go_meet
        exact CurP.mk (by simpa using HK2.out) (by first | exact grown_drewN HG2.out _ | exact grown_drewN (grown_drewN HG2.out _) _)
      case rest =>
        obtain ⟨x3, h3, hx3, rfl, hblk3, hg3⟩ := hcut
        have HG3 := Lib.hid hg3
        have HB3 := Lib.hid (fun v => setCur1 hblk3 v)
        clear c0 c1 c2 cf1 HK2 hcell hg3
        obtain ⟨c0, c1, c2, cf⟩ := cellsCur hblk3
        have cf1 := cf 1
        clear cf hblk3
        go_wp2_with fail
        go_ret
        exact ⟨x3, hx3, rfl, ⟨i + 1, h3, by rw [HB3.out]; simp, by omega⟩, grown_tr HG3.out (setGrown _ _ _ _)⟩
    · have hil : ¬ (i : Int) < (l.length : Int) := by omega
      go_wp2_with fail
      go_quiet (fail)
      go_wp2_with fail
      go_ret
      exact ⟨x, hx, rfl, ⟨i, h2, HK2.out, hi⟩, grown_drewN HG2.out _⟩
/-- a new cursor -/
def RetCur (a : Option Addr) (n cap : Nat) (w : World) (e : Ending) (w' : World) : Prop := e = .returned (.pointer (some ⟨w.heap.size, 0, none⟩)) ∧ CurAt w' w.heap.size a n cap ∧ Below w.heap.size w w'
theorem RetCur.mk {a : Option Addr} {n cap : Nat} {w : World} (h : Int) : RetCur a n cap w (.returned (.pointer (some ⟨w.heap.size, 0, none⟩))) (w.alloc (.cells #[.slice a n cap, .int .i64 0, .int .i64 h] 77)) :=
  ⟨rfl, ⟨0, h, by unfold World.alloc; simp, Nat.zero_le _⟩, (Below.refl _ _).alloc (Nat.le_refl _) _⟩
set_option maxRecDepth 20000 in
set_option maxHeartbeats 2000000 in
theorem l01New_any (a : Option Addr) (l : List UInt8) (cap : Nat) (w : World) (hl : BytesIn w a l) (hlen : l.length ≤ 2 ^ 40) :
    Calls Try.prog 55 #[.slice a l.length cap] w (RetCur a l.length cap w) := by
  have HL := Lib.hid hl
  clear hl
  go_enter Try.func55, Try.ntmps55
  go_wp2_with fail
  go_loop [3, 4] (fun h i => ∃ (j : Nat) (z : Int), j ≤ l.length ∧ i = .int .i64 (j : Nat) ∧ h = .int .i64 z) (fun _ i => l.length - (intOf i).toNat)
  case atStart => exact ⟨0, _, Nat.zero_le _, rfl, rfl⟩
  case round =>
    obtain ⟨j, z, hj, rfl, rfl⟩ := hrel
    by_cases hlt : j < l.length
    · obtain ⟨b, off, rfl, hb, c, hc, hcell⟩ := HL.out.cell hlt
      by_cases h4 : j < 4000
      · go_wp2_with fail
        go_round
        case rel => exact ⟨j + 1, _, by omega, by go_num, rfl⟩
        case measure => simp [intOf]; omega
      · go_wp2_with fail
        go_ret
        exact RetCur.mk _
    · go_wp2_with fail
      go_ret
      exact RetCur.mk _
theorem curNe {w : World} {a : Option Addr} {l : List UInt8} (hl : BytesIn w a l) (hne : l ≠ []) : ∀ x, a = some x → x.block < w.heap.size := by
  rintro x rfl
  obtain ⟨b, off, ha, hb, _⟩ := hl.cell (i := 0) (by cases l with | nil => exact absurd rfl hne | cons => simp)
  obtain rfl := Option.some.inj ha
  exact hb
/-- what a cursor is read with -/
structure CurOk (w : World) (B : Nat) (a : Option Addr) (l : List UInt8) (cap : Nat) : Prop where
  at_ : CurAt w B a l.length cap
  bytes : BytesIn w a l
  ne : l ≠ [] → ∀ x, a = some x → x.block ≠ B
  len : l.length ≤ 2 ^ 40
theorem CurOk.later {w w' : World} {B : Nat} {a : Option Addr} {l : List UInt8} {cap : Nat} (h : CurOk w B a l cap) (hb : Below w.heap.size w w') : CurOk w' B a l cap := ⟨h.at_.later hb, h.bytes.later hb, h.ne, h.len⟩
theorem CurOk.next {w w' : World} {B : Nat} {a : Option Addr} {l : List UInt8} {cap : Nat} (h : CurOk w B a l cap) (hc : CurAt w' B a l.length cap) (hg : w.grownBy w' (some B)) : CurOk w' B a l cap := ⟨hc, h.bytes.grown hg h.ne, h.ne, h.len⟩
theorem byte_cur {w : World} {B : Nat} {a : Option Addr} {l : List UInt8} {cap : Nat} (h : CurOk w B a l cap) :
    Calls Try.prog 27 #[.pointer (some ⟨B, 0, none⟩)] w fun e w' => ∃ x : Nat, x < 256 ∧ e = .returned (.int .i64 ((x : Nat) : Int)) ∧ CurOk w' B a l cap ∧ w.grownBy w' (some B) :=
  (l01Byte_any B a l cap w h.at_ h.bytes h.ne h.len).mono fun _ _ ⟨x, hx, he, hc, hg⟩ => ⟨x, hx, he, h.next hc hg, hg⟩
theorem below_curs {w0 w w' : World} {B : Nat} (h : Below w0.heap.size w0 w) (hg : w.grownBy w' (some B)) (hB : w0.heap.size ≤ B) : Below w0.heap.size w0 w' :=
  h.grown hg h.size (fun k hk => by have := Option.some.inj hk; omega)
theorem RetCur.ok {a : Option Addr} {l : List UInt8} {cap : Nat} {w w' : World} {e : Ending} (h : RetCur a l.length cap w e w') (hl : BytesIn w a l) (hlen : l.length ≤ 2 ^ 40) : CurOk w' w.heap.size a l cap :=
  ⟨h.2.1, hl.later h.2.2, fun hne x hx => Nat.ne_of_lt (curNe hl hne x hx), hlen⟩
set_option maxRecDepth 20000 in
set_option maxHeartbeats 2000000 in
theorem l31New_any (a : Option Addr) (l : List UInt8) (cap k : Nat) (w : World) (hl : BytesIn w a l) (hlen : l.length ≤ 2 ^ 40) (hk : k ≤ 1000) :
    Calls Try.prog 26 #[.slice a l.length cap, .int .i64 (k : Nat)] w fun e w' => e = .returned (.pointer (some ⟨w.heap.size, 0, none⟩)) ∧ CurOk w' w.heap.size a l cap ∧ Below w.heap.size w w' := by
  have HN := Lib.hid (l01New_any a l cap w hl hlen)
  have HL := Lib.hid hl
  clear hl
  go_enter Try.func26, Try.ntmps26
  go_wp2_with fail
  refine HN.out.mono ?_
  rintro e w2 hr
  obtain ⟨rfl, _⟩ := id hr
  have HC := Lib.hid (hr.ok HL.out hlen)
  have HB := Lib.hid hr.2.2
  clear hr HN
  go_wp2_with fail
  go_loopw [6] (fun i wr => ∃ j : Nat, j ≤ k ∧ i = .int .i64 (j : Nat) ∧ CurOk wr w.heap.size a l cap ∧ Below w.heap.size w wr) (fun i _ => k - (intOf i).toNat)
  case atStart => exact ⟨0, Nat.zero_le _, rfl, HC.out, HB.out⟩
  case round =>
    clear HC HB
    obtain ⟨j, hj, rfl, hc, hb⟩ := hrel
    have HC := Lib.hid hc
    have HB := Lib.hid hb
    clear hc hb
    by_cases hlt : j < k
    · go_wp2_with fail
      refine (byte_cur HC.out).mono ?_
      rintro e w3 ⟨x, hx, rfl, hc3, hg3⟩
      have HC3 := Lib.hid hc3
      have HB3 := Lib.hid (below_curs HB.out hg3 (Nat.le_refl _))
      clear hc3 hg3
      go_wp2_with fail
      go_roundw
      case rel => exact ⟨j + 1, by omega, by go_num, HC3.out, HB3.out⟩
      case measure => simp [intOf]; omega
    · go_wp2_with fail
      go_ret
      exact ⟨rfl, HC.out, HB.out⟩
set_option maxRecDepth 20000 in
set_option maxHeartbeats 2000000 in
theorem makeNum_any (a : Option Addr) (l : List UInt8) (cap k : Nat) (w : World) (hl : BytesIn w a l) (hlen : l.length ≤ 2 ^ 40) (hk : k ≤ 1000) :
    Calls Try.prog 6 #[.slice a l.length cap, .int .i64 (k : Nat)] w fun e w' => ∃ x : Nat, x < 65536 ∧ e = .returned (.int .i64 ((x : Nat) : Int)) ∧ Below w.heap.size w w' := by
  have HN := Lib.hid (l31New_any a l cap k w hl hlen hk)
  clear hl
  go_enter Try.func6, Try.ntmps6
  go_wp2_with fail
  refine HN.out.mono ?_
  rintro e w2 ⟨rfl, hc, hb⟩
  have HC := Lib.hid hc
  have HB := Lib.hid hb
  clear hc hb HN
  go_wp2_with fail
  refine (byte_cur HC.out).mono ?_
  rintro e w3 ⟨x, hx, rfl, hc3, hg3⟩
  have HC3 := Lib.hid hc3
  have HB3 := Lib.hid (below_curs HB.out hg3 (Nat.le_refl _))
  clear hc3 hg3
  go_wp2_with fail
  refine (byte_cur HC3.out).mono ?_
  rintro e w4 ⟨y, hy, rfl, hc4, hg4⟩
  have HB4 := Lib.hid (below_curs HB3.out hg4 (Nat.le_refl _))
  clear hc4 hg4
  go_wp2_with fail
  go_ret
  exact ⟨x * 256 + y, by omega, by go_num, HB4.out⟩
end Go.Proofs.Ytnnboeeogbgmdaa
