/-
  l08Find and MonoidOf of the reference.
-/
import Derived.Test.YtmgdglghjlggnaaGreatGway16
import Derived.Test.YtmgdglghjlggnaaGreatGway12
import Derived.Test.YtmgdglghjlggnaaGreatGway28
import Derived.Test.YtmgdglghjlggnaaGreatGway13
import Derived.Test.YtmgdglghjlggnaaGreatGway24
import Derived.Test.YtmgdglghjlggnaaGreatGway23
import Derived.Test.YtmgdglghjlggnaaGreatGway21
import Derived.IntWalk
namespace Go.Proofs.YtmgdglghjlggnaaGreat
open Go.RowKit
set_option linter.unusedVariables false
/-- what the first loop has made: the rules that fell out, and those that are kept -/
structure InsSt (w1 wr : World) (g : Nat) (k : Int) (v6 vL : Value) (G K : List RulD) : Prop where
  gone : Bld 89 2 w1 wr v6 G.length (ruleCells G)
  rec2 : Rec2 67 89 2 w1 wr g (.int .i64 k) vL K.length (ruleCells K)
  far : ∀ b, v6.ownBlock = some b → b ≠ g ∧ vL.ownBlock ≠ some b
theorem InsSt.later {w1 wr wr' : World} {g : Nat} {k : Int} {v6 vL : Value} {G K : List RulD} (h : InsSt w1 wr g k v6 vL G K) (hb : Below wr.heap.size wr wr') : InsSt w1 wr' g k v6 vL G K := ⟨h.gone.later hb, h.rec2.later hb, h.far⟩
theorem Rec2.keptG {TT T : TypeId} {size : Nat} {w wr wr' : World} {g : Nat} {x v : Value} {n : Nat} {xs : List Value} {own : Option Nat} (h : Rec2 TT T size w wr g x v n xs) (hg : wr.grownBy wr' own) (h1 : own ≠ some g) (h2 : ∀ b, v.ownBlock = some b → own ≠ some b) (h3 : ∀ b, own = some b → w.heap.size ≤ b) : Rec2 TT T size w wr' g x v n xs := by
  refine ⟨(hg.block g h.lt (fun e => h1 e.symm)).trans h.blk, h.own.kept hg ?_, h.le, h.below.grown hg h.below.size h3⟩
  cases hv : v.ownBlock with
  | none => exact .inl rfl
  | some b => exact .inr (fun e => h2 b hv e.symm)
theorem block_later {W : World} {i : Nat} {o : Obj} (h : W.heap[i]? = some o) : ∀ W', Below W.heap.size W W' → W'.heap[i]? = some o := fun W' hW => (hW.block i (Array.getElem?_eq_some_iff.1 h).1).trans h
theorem alloc_oldI (W : World) (o : Obj) {n : Nat} {x : Obj} (h : W.heap[n]? = some x) : (W.alloc o).heap[n]? = some x := (block_later h) _ (alloc_belowS W o)
/-- another block is set -/
theorem Rec2.setFar {TT T : TypeId} {size : Nat} {w wr : World} {g : Nat} {x v : Value} {n : Nat} {xs : List Value} (h : Rec2 TT T size w wr g x v n xs) {b : Nat} (o : Nat) (u : Value) (h1 : b ≠ g) (h2 : v.ownBlock ≠ some b) (h3 : w.heap.size ≤ b) : Rec2 TT T size w (wr.setCell ⟨b, o, none⟩ u) g x v n xs :=
  h.keptG (setGrownB wr b o u) (fun e => h1 (Option.some.inj e)) (fun c hc e => h2 (by rw [hc, ← e])) (fun c e => by have := Option.some.inj e; omega)
end Go.Proofs.YtmgdglghjlggnaaGreat
namespace Go.Proofs.YtmgdglghjlggnaaGreat
open Go.RowKit
set_option linter.unusedVariables false
theorem CurOk.grownO {w w' : World} {B : Nat} {a : Option Addr} {l : List UInt8} {cap : Nat} {own : Option Nat} (h : CurOk w B a l cap) (hg : w.grownBy w' own) (h1 : own ≠ some B) (h2 : l ≠ [] → ∀ x, a = some x → own ≠ some x.block) : CurOk w' B a l cap := by
  refine ⟨?_, ?_, h.ne, h.len⟩
  · obtain ⟨i, hh, hb, hi⟩ := h.at_
    exact ⟨i, hh, (hg.block B h.lt (fun e => h1 e.symm)).trans hb, hi⟩
  · rcases h.bytes with hb | ⟨b, off, ha, hc⟩
    · exact .inl hb
    · refine .inr ⟨b, off, ha, fun i hi => ?_⟩
      rw [World.cell?_of_block (w := w) (hg.block b (World.block_lt_of_cell? w _ (hc i hi)) (fun e => h2 (fun e2 => by subst e2; simp at hi) _ ha e.symm))]
      exact hc i hi
/-- a system that is being drawn -/
structure DrwAt (B : Nat) (a : Option Addr) (l : List UInt8) (cap : Nat) (w0 w wr : World) (k : Nat) (v : Value) (R : List RulD) : Prop where
  rc : Rec2 67 89 2 w0 wr (w.heap.size + 1) (.int .i64 (k : Nat)) v R.length (ruleCells R)
  cur : CurOk wr B a l cap
  zero : wr.heap[w.heap.size]? = some (.cells #[.int .i64 0, .slice none 0 0] 67 (0, 0))
  k1 : 1 ≤ k ∧ k ≤ 3
  ok : ∀ r ∈ R, ruleP k r ∧ lessS r.2 r.1 = true
  lt : B < w.heap.size ∧ w0.heap.size ≤ B
  far : l ≠ [] → ∀ x, a = some x → x.block < w.heap.size
section
variable {B : Nat} {a : Option Addr} {l : List UInt8} {cap : Nat} {w0 w wr : World} {k : Nat} {v : Value} {R : List RulD}
theorem DrwAt.later {w' : World} (h : DrwAt B a l cap w0 w wr k v R) (hb : Below wr.heap.size wr w') : DrwAt B a l cap w0 w w' k v R :=
  ⟨h.rc.later hb, h.cur.later hb, block_later h.zero _ hb, h.k1, h.ok, h.lt, h.far⟩
theorem DrwAt.next {w' : World} (h : DrwAt B a l cap w0 w wr k v R) (hc : CurOk w' B a l cap) (hg : wr.grownBy w' (some B)) : DrwAt B a l cap w0 w w' k v R := by
  have h1 := h.lt
  have h2 := h.rc.lt
  refine ⟨h.rc.keptG hg (fun e => by have := Option.some.inj e; omega) (fun b hb e => by have := (h.rc.own.lt b hb).1; have := Option.some.inj e; omega) (fun b e => by have := Option.some.inj e; omega), hc, ?_, h.k1, h.ok, h.lt, h.far⟩
  exact (hg.block _ (by omega) (fun e => by have := Option.some.inj e; omega)).trans h.zero
theorem DrwAt.start (hc : CurOk w B a l cap) (hb : Below w0.heap.size w0 w) (hB : w0.heap.size ≤ B) : DrwAt B a l cap w0 w ((w.alloc (.cells #[.int .i64 0, .slice none 0 0] 67)).alloc (.cells #[.int .i64 ((2 : Nat) : Int), .slice none 0 0] 67)) 2 (.slice none 0 0) [] := by
  have h1 := Rec2.start 67 89 2 (w := w0) (hb.alloc hb.size (.cells #[.int .i64 0, .slice none 0 0] 67)) (.int .i64 ((2 : Nat) : Int))
  have e : (w.alloc (.cells #[.int .i64 0, .slice none 0 0] 67)).heap.size = w.heap.size + 1 := by simp
  rw [e] at h1
  exact ⟨h1, (hc.alloc _).alloc _, (alloc_two w _ _).1, by omega, fun r hr => by simp at hr, ⟨hc.lt, hB⟩, curNe hc.bytes⟩
theorem DrwAt.put (h : DrwAt B a l cap w0 w wr k v R) {p : RulD} (hp : ruleP k p ∧ lessS p.2 p.1 = true) {w4 : World} {ob : Obj} {v' : Value} (hg : (wr.alloc ob).grownBy w4 v.ownBlock) (ho : w4.ownsRow (w.heap.size + 1 + 1) 89 2 v' (R.length + 1) (ruleCells R ++ [.string p.1, .string p.2])) :
    DrwAt B a l cap w0 w (w4.setCell ⟨w.heap.size + 1, 1, none⟩ v') k v' (R ++ [p]) := by
  have h1 := h.lt
  have hlt := h.rc.lt
  have hr : Rec2 67 89 2 w0 (w4.setCell ⟨w.heap.size + 1, 1, none⟩ v') (w.heap.size + 1) (.int .i64 (k : Nat)) v' (R ++ [p]).length (ruleCells (R ++ [p])) := by
    rw [List.length_append, ruleCells_app, show ruleCells [p] = [Value.string p.1, .string p.2] from rfl]
    exact h.rc.put (Below.refl _ _) hg ho
  have hb : ∀ b, v.ownBlock = some b → w.heap.size + 1 + 1 ≤ b := fun b hb => (h.rc.own.lt b hb).1
  have hc1 : CurOk w4 B a l cap := (h.cur.alloc ob).grownO hg (fun e => by have := hb _ e; omega) (fun hne x hx e => by have := h.far hne x hx; have := hb _ e; omega)
  have hz1 : w4.heap[w.heap.size]? = some (.cells #[.int .i64 0, .slice none 0 0] 67 (0, 0)) := (hg.block _ (by simp; omega) (fun e => by have := hb _ e.symm; omega)).trans (alloc_oldI wr ob h.zero)
  refine ⟨hr, hc1.grownO (setGrownB w4 _ 1 _) (fun e => by have := Option.some.inj e; omega) (fun hne x hx e => by have := h.far hne x hx; have := Option.some.inj e; omega), ?_, h.k1, ?_, h.lt, h.far⟩
  · unfold World.setCell
    rw [Array.getElem?_modify, if_neg (by show ¬ w.heap.size + 1 = w.heap.size; omega)]
    exact hz1
  · intro r hr
    rcases List.mem_append.1 hr with h3 | h3
    · exact h.ok r h3
    · obtain rfl : r = p := by simpa using h3
      exact hp
end
end Go.Proofs.YtmgdglghjlggnaaGreat
namespace Go.Proofs.YtmgdglghjlggnaaGreat
open Go.RowKit
set_option linter.unusedVariables false
theorem imStep {wA W W' : World} {o p : Option Nat} (h : wA.grownBy W o) (h' : W.grownBy W' p) (hp : ∀ k, p = some k → o = some k ∨ wA.heap.size ≤ k) : wA.grownBy W' o :=
  ⟨h'.os.trans h.os, h'.tape.trans h.tape, h'.output.trans h.output, Nat.le_trans h.size h'.size, fun k hk hne => (h'.block k (Nat.lt_of_lt_of_le hk h.size) (fun e => by
    rcases hp k e.symm with h1 | h1
    · exact hne h1.symm
    · omega)).trans (h.block k hk hne)⟩
/-- elements in memory, being made -/
structure ImSt (m B : Nat) (a : Option Addr) (l : List UInt8) (cap : Nat) (w wr : World) (v : Value) (E : List Nat) : Prop where
  cur : CurOk wr B a l cap
  row : ownsOff wr w.heap.size 3 1 v E.length (ctV E)
  gr : w.grownBy wr (some B)
  side : ∀ r ∈ E, r < m
section
variable {m B : Nat} {a : Option Addr} {l : List UInt8} {cap : Nat} {w wr : World} {v : Value} {E : List Nat}
theorem ImSt.next {w' : World} (hB : B < w.heap.size) (h : ImSt m B a l cap w wr v E) (hc : CurOk w' B a l cap) (hg : wr.grownBy w' (some B)) : ImSt m B a l cap w w' v E :=
  ⟨hc, h.row.kept hg (by
    cases e : v.ownBlock with
    | none => exact .inl rfl
    | some k =>
      refine .inr (fun e2 => ?_)
      have := (h.row.lt k e).1
      have := Option.some.inj e2
      omega), grown_tr h.gr hg, h.side⟩
theorem ImSt.start (h : CurOk w B a l cap) : ImSt m B a l cap w (w.alloc (.cells #[] 3)) (.slice (some ⟨w.heap.size, 0, none⟩) 0 0) [] :=
  ⟨h.alloc _, off_empty 3 1 w _ (Below.refl _ _), grown_alloc ⟨rfl, rfl, rfl, Nat.le_refl _, fun _ _ _ => rfl⟩ _, fun r hr => by cases hr⟩
theorem ImSt.put {w4 : World} {v' : Value} {r : Nat} {o : Obj} (hB : B < w.heap.size) (hA : l ≠ [] → ∀ x, a = some x → x.block < w.heap.size) (h : ImSt m B a l cap w wr v E) (hr : r < m) (ho : ownsOff w4 w.heap.size 3 1 v' (E.length + 1) (ctV E ++ [.int .i64 ((r : Nat) : Int)])) (hg : (wr.alloc o).grownBy w4 v.ownBlock) : ImSt m B a l cap w w4 v' (E ++ [r]) := by
  have hown : ∀ k, v.ownBlock = some k → w.heap.size ≤ k := fun k hk => (h.row.lt k hk).1
  refine ⟨(h.cur.alloc o).grownO hg (fun e => ?_) (fun hl x hx e => ?_), ?_, ?_, fun x hx => ?_⟩
  · have := hown B e; omega
  · have := hown _ e; have := hA hl x hx; omega
  · rw [List.length_append, show ctV (E ++ [r]) = ctV E ++ [.int .i64 ((r : Nat) : Int)] by simp [ctV]]
    exact ho
  · exact imStep (grown_alloc h.gr o) hg (fun k hk => .inr (hown k hk))
  · rcases List.mem_append.1 hx with h1 | h1
    · exact h.side x h1
    · rw [List.mem_singleton.1 h1]; exact hr
end
def RetIm (m : Nat) (w : World) (e : Ending) (w' : World) : Prop := ∃ (E : List Nat) (aE : Option Addr) (cE : Nat), (1 ≤ E.length ∧ E.length ≤ 2) ∧ (∀ x ∈ E, x < m) ∧ e = .returned (.slice aE E.length cE) ∧ NatsIn w' aE E ∧ Below w.heap.size w w'
set_option maxRecDepth 20000 in
set_option maxHeartbeats 4000000 in
theorem makeImages_any (a : Option Addr) (l : List UInt8) (cap k m : Nat) (aT : Option Addr) (lT cT : Nat) (w : World) (hl : BytesIn w a l) (hlen : l.length ≤ 2 ^ 40) (hk : k ≤ 1000) (hm1 : 1 ≤ m) (hm : m ≤ 40) :
    Calls Tryz.prog 5 #[.slice a l.length cap, .int .i64 (k : Nat), .agg #[.int .i64 (m : Nat), .slice aT lT cT]] w (RetIm m w) := by
  have HB := Lib.hid (alloc_belowS w (.cells #[.int .i64 (m : Nat), .slice aT lT cT] 25))
  have HNW := Lib.hid (l31New_any a l cap k (w.alloc (.cells #[.int .i64 (m : Nat), .slice aT lT cT] 25)) (hl.later HB.out) hlen hk)
  have HCE : Hid ((w.alloc (.cells #[.int .i64 (m : Nat), .slice aT lT cT] 25)).cell? ⟨w.heap.size, 0, none⟩ = some (.int .i64 (m : Nat))) := Lib.hid (by simp)
  have HCL : Hid (w.heap.size < (w.alloc (.cells #[.int .i64 (m : Nat), .slice aT lT cT] 25)).heap.size) := Lib.hid (by simp)
  have HBL := Lib.hid (hl.later HB.out)
  clear hl
  go_enter Tryz.func5, Tryz.ntmps5
  go_upto_region 1 with fail
  generalize w.alloc (.cells #[.int .i64 (m : Nat), .slice aT lT cT] 25) = w1 at *
  go_wp2_with fail
  refine HNW.out.mono ?_
  rintro e w2 ⟨rfl, hc2, hb2⟩
  have HLT := Lib.hid hc2.lt
  have HA : Hid (l ≠ [] → ∀ x, a = some x → x.block < w2.heap.size) := Lib.hid (fun hl => curNe hc2.bytes hl)
  have HS0 := Lib.hid (ImSt.start (m := m) hc2)
  have HB2 := Lib.hid hb2
  have HX : Hid (∀ W, w2.grownBy W (some w1.heap.size) → W.cell? ⟨w.heap.size, 0, none⟩ = some (.int .i64 (m : Nat))) := Lib.hid (fun W hW => by
    have h1 := HCL.out
    rw [World.cell?_of_block (w := w2) (hW.block _ (Nat.lt_of_lt_of_le h1 hb2.size) (fun e => by have e2 : w.heap.size = w1.heap.size := Option.some.inj e; omega)), hb2.cell h1]
    exact HCE.out)
  have HB12 := Lib.hid (Below.now HB.out hb2)
  clear hc2 hb2 HNW
  obtain ⟨B, hB⟩ : ∃ B, w1.heap.size = B := ⟨_, rfl⟩
  have HBE := Lib.hid hB
  rw [hB] at HLT HS0 HX
  rw [hB]
  clear hB
  go_upto_region 3 with fail
  generalize w2.alloc (.cells #[] 3) = w3 at *
  go_wp2_with fail
  refine (l01Below_any B 2 a l cap _ HS0.out.cur (by omega) (by omega)).mono ?_
  rintro e w4 ⟨x, hx, rfl, hc4, hg4⟩
  have HS4 := Lib.hid (HS0.out.next HLT.out hc4 hg4)
  clear hc4 hg4 HS0
  have hx1 : (1 : Int) + (x : Int) = ((1 + x : Nat) : Int) := by omega
  obtain ⟨n0, hn0⟩ : ∃ n0, 1 + x = n0 := ⟨_, rfl⟩
  rw [hn0] at hx1
  have hn2 : n0 ≤ 2 := by omega
  have hn1 : 1 ≤ n0 := by omega
  go_wp2_with fail
  go_loopw [8, 9] (fun v n wr => ∃ (i : Nat) (E : List Nat), (i + E.length ≤ 2 ∧ 1 ≤ i + E.length) ∧ n = .int .i64 (i : Nat) ∧ Hid (ImSt m B a l cap w2 wr v E)) (fun _ n _ => (intOf n).toNat)
  case atStart => exact ⟨n0, [], ⟨by simpa using hn2, by simpa using hn1⟩, by first | rw [hx1] | rfl | simp [hx1], HS4⟩
  case round =>
    clear HS4 hx1 hn0 hn2 hn1
    obtain ⟨i, E, hE, rfl, HS⟩ := hrel
    obtain ⟨aE, cE, rfl⟩ := HS.out.row.form
    by_cases hi : 0 < i
    · have hi2 : (0 : Int) < (i : Int) := by omega
      have z0 := HX.out _ HS.out.gr
      have hmin : min (m : Int) 40 = (m : Int) := by omega
      have hmax : max 1 (m : Int) = (m : Int) := by omega
      have HD := Lib.hid (l01Below_any B m a l cap _ HS.out.cur hm1 (by omega))
      go_wp2_with fail
      refine HD.out.mono ?_
      rintro e w5 ⟨q, hq, rfl, hc5, hg5⟩
      have HS5 := Lib.hid (HS.out.next HLT.out hc5 hg5)
      clear hc5 hg5 HS z0 hmin hmax HD
      go_wp2_with (at_builtin; refine wpList_append_off rfl (.tmp 21) (.tmp 28) rfl Tryz.underlying23 Tryz.infoInt rfl (by decide) rfl (HS5.out.row.later (alloc_belowS _ (.cells #[.int .i64 ((q : Nat) : Int)] 3))) (by have := HS5.out.gr.size; simp; omega) rfl (src_of Tryz.underlying23 (Src.lit (w := w5) (T := 3) (c := 1) (m := 1) [.int .i64 ((q : Nat) : Int)]) rfl (fun u hu => by simp at hu; rcases hu with rfl; rfl)) (by unfold maxLen; omega) (by omega) ?_)
      intro v6 w6 ho6 hg6
      have HS6 := Lib.hid (HS5.out.put HLT.out HA.out hq ho6 hg6)
      clear ho6 hg6 HS5
      go_wp2_with fail
      go_roundw
      case rel => exact ⟨i - 1, E ++ [q], by simp; omega, by go_num, HS6⟩
      case measure => simp [intOf]; omega
    · obtain rfl : i = 0 := by omega
      have F : Hid (RetIm m w (.returned (.slice aE E.length cE)) wr) := Lib.hid ⟨E, aE, cE, by omega, HS.out.side, rfl, by
        have h1 := HS.out.row.cells
        unfold NatsIn IntsIn
        rw [ctV_ints] at h1
        exact h1, below_curs HB12.out HS.out.gr (by rw [← HBE.out]; exact HB.out.size)⟩
      go_wp2_with fail
      go_ret
      exact F.out
end Go.Proofs.YtmgdglghjlggnaaGreat
namespace Go.Proofs.YtmgdglghjlggnaaGreat
open Go.RowKit
set_option linter.unusedVariables false
set_option maxHeartbeats 400000 in
theorem l08Find_any (v : ByteArray) (l : List ByteArray) (a : Option Addr) (cap : Nat) (w : World) (hl : StrsIn w a l) (hlen : l.length ≤ 2 ^ 47) :
    Calls Tryz.prog 76 #[.slice a l.length cap, .string v] w fun e w' => e = .returned (.int .i64 (idxB l v)) ∧ Below w.heap.size w w' := by
  have HL := Lib.hid hl
  clear hl
  go_enter Tryz.func76, Tryz.ntmps76
  go_wp2_with fail
  go_loopw [9] (fun i wr => ∃ j : Nat, j ≤ l.length ∧ i = .int .i64 j ∧ Hid (idxTo l v j = none) ∧ wr = w) (fun i _ => l.length - (intOf i).toNat)
  case atStart => exact ⟨0, Nat.zero_le _, rfl, Lib.hid (idxTo_zero _ _), rfl⟩
  case round =>
    obtain ⟨j, hj, rfl, H, rfl⟩ := hrel
    by_cases hlt : j < l.length
    · obtain ⟨b, off, rfl, hb, hc⟩ := HL.out.cell hlt
      have h1 : wr.cell? ⟨b, off + j, none⟩ = some (.string (nthS l j)) := hc j hlt
      have HS1 : Hid (((nthS l j).toList == v.toList) = false → idxTo l v (j + 1) = none) := Lib.hid (fun hp => idxTo_succ H.out hp)
      have HS2 : Hid (((nthS l j).toList == v.toList) = true → idxB l v = (j : Int)) := Lib.hid (fun hp => idxB_at H.out hlt hp)
      clear hc
      generalize nthS l j = u at *
      cases hp : (u.toList == v.toList)
      · have F := Lib.hid (HS1.out hp)
        go_wp2_with fail
        go_roundw
        case rel => exact ⟨j + 1, by omega, by go_num, F, trivial⟩
        case measure => simp [intOf]; omega
      · have F := Lib.hid (HS2.out hp)
        go_wp2_with fail
        go_ret
        exact ⟨ret_int F.out.symm, Below.refl _ _⟩
    · have F := Lib.hid (idxB_none H.out hlt hj)
      go_wp2_with fail
      go_ret
      exact ⟨ret_int F.out.symm, Below.refl _ _⟩
theorem RetMon.no {k : Int} {R : List RulD} {w w' : World} (h : ¬ GoM k R) (hb : Below w.heap.size w w') : RetMon k R w (.returned (.tuple #[.agg #[.int .i64 0, .slice none 0 0], .slice none 0 0, .bool false])) w' :=
  ⟨[], [], false, none, none, 0, 0, .inl ⟨h, rfl, rfl, rfl⟩, rfl, World.ownsRow_nil _ _ _ _, World.ownsRow_nil _ _ _ _, hb⟩
/-- the table that is being made, at block g -/
def MonSt (w wr : World) (g : Nat) (L : List ByteArray) (xs : List Int) : Prop := ∃ v, Rec2 25 3 1 w wr g (.int .i64 (L.length : Nat)) v xs.length (intVals xs)
theorem intVals_one (x : Int) (l : List Int) : intVals (l ++ [x]) = intVals l ++ [.int .i64 x] := by simp [intVals]
set_option maxRecDepth 100000 in
set_option maxHeartbeats 4000000 in
theorem specMonoidOf_any (k : Int) (R : List RulD) (a : Option Addr) (cap : Nat) (w : World) (hl : RulesIn w a R) (hlen : R.length ≤ 2 ^ 40) (hz : SzR R) :
    Calls Tryz.prog 49 #[.agg #[.int .i64 k, .slice a R.length cap]] w (RetMon k R w) := by
  have HIC := Lib.hid (fun W h => specIsComplete_any k R a cap W h hlen hz)
  have HCA := Lib.hid (fun W h => specCountAll_any k R a cap W h hlen hz)
  have HLR := Lib.hid (fun W h => specLongestReduced_any k R a cap W h hlen hz)
  have HAR := Lib.hid (fun W h => specAllReduced_fn k R a cap W h hlen hz)
  have HNF := Lib.hid (fun w0 W h hs hw => specNormalForm_ok k R a cap w0 W h hs hw)
  have HL := Lib.hid hl
  have e1 : (w.alloc (.cells #[.int .i64 k, .slice a R.length cap] 67)).heap.size = w.heap.size + 1 := by simp
  have HW1 : Hid (Below w.heap.size w ((w.alloc (.cells #[.int .i64 k, .slice a R.length cap] 67)).alloc (.cells #[.int .i64 0, .slice none 0 0] 25))) := Lib.hid (Below.now (alloc_belowS w _) (alloc_belowS _ _))
  have HBX := Lib.hid (fun W2 (h : Below ((w.alloc (.cells #[.int .i64 k, .slice a R.length cap] 67)).alloc (.cells #[.int .i64 0, .slice none 0 0] 25)).heap.size ((w.alloc (.cells #[.int .i64 k, .slice a R.length cap] 67)).alloc (.cells #[.int .i64 0, .slice none 0 0] 25)) W2) => And.intro (box_two (Below.now (alloc_belowS (w.alloc (.cells #[.int .i64 k, .slice a R.length cap] 67)) _) h)) (box_facts h))
  rw [e1] at HBX
  have HZ : Hid (w.heap.size + 1 < ((w.alloc (.cells #[.int .i64 k, .slice a R.length cap] 67)).alloc (.cells #[.int .i64 0, .slice none 0 0] 25)).heap.size) := Lib.hid (by simp)
  clear hl hz e1
  go_enter Tryz.func49, Tryz.ntmps49
  go_wp2_with fail
  generalize (w.alloc (.cells #[.int .i64 k, .slice a R.length cap] 67)).alloc (.cells #[.int .i64 0, .slice none 0 0] 25) = w1 at *
  refine (HIC.out _ (HL.out.later HW1.out)).mono ?_
  rintro e w2 ⟨bb, hbb, rfl, hb2⟩
  have HBB := Lib.hid hbb
  have HB2 := Lib.hid hb2
  obtain ⟨⟨s0, s1⟩, ⟨u0, u1⟩, z0, z1⟩ := HBX.out _ hb2
  clear hbb hb2
  cases bb
  · have F : Hid (RetMon k R w (.returned (.tuple #[.agg #[.int .i64 0, .slice none 0 0], .slice none 0 0, .bool false])) ((w2.setCell ⟨w.heap.size + 1, 0, none⟩ (.int .i64 0)).setCell ⟨w.heap.size + 1, 1, none⟩ (.slice none 0 0))) := Lib.hid (RetMon.no (fun h => by have := HBB.out.2 h.1; cases this) (((Below.now HW1.out HB2.out).setCell (by simp; try omega) _).setCell (by simp; try omega) _))
    go_wp2_with fail
    refine bodyPost_ret (v := .tuple #[.agg #[.int .i64 0, .slice none 0 0], .slice none 0 0, .bool false]) ?_ rfl F.out
    simp [results, Tryz.results49, go_sem, u0, u1]
  · have HCP := Lib.hid (HBB.out.1 rfl)
    go_wp2_with fail
    refine (HCA.out _ (HL.out.later (Below.now HW1.out HB2.out))).mono ?_
    rintro e w3 ⟨c, hc, rfl, hb3⟩
    have HC := Lib.hid hc
    have HB3 := Lib.hid (Below.now HB2.out hb3)
    have HR0 := Lib.hid (fun W => l01In_any c 1 40 W)
    clear hc hb3 s0 s1 u0 u1 z0 z1 HB2 HBB
    obtain ⟨⟨s0, s1⟩, ⟨u0, u1⟩, z0, z1⟩ := HBX.out _ HB3.out
    cases hin : inB c 1 40
    · have HIN := Lib.hid hin
      rw [hin] at HR0
      have F : Hid (RetMon k R w (.returned (.tuple #[.agg #[.int .i64 0, .slice none 0 0], .slice none 0 0, .bool false])) ((w3.setCell ⟨w.heap.size + 1, 0, none⟩ (.int .i64 0)).setCell ⟨w.heap.size + 1, 1, none⟩ (.slice none 0 0))) := Lib.hid (RetMon.no (fun h => by
        obtain ⟨_, ⟨c2, h1, h2, h3⟩, _⟩ := h
        obtain rfl := h1.uniq HC.out
        have h4 := HIN.out
        unfold inB at h4
        simp at h4
        omega) (((Below.now HW1.out HB3.out).setCell (by simp; try omega) _).setCell (by simp; try omega) _))
      clear hin
      go_wp2_with (go_at_call 71; refine (HR0.out _).mono ?_; rintro e w' ⟨rfl, rfl⟩)
      refine bodyPost_ret (v := .tuple #[.agg #[.int .i64 0, .slice none 0 0], .slice none 0 0, .bool false]) ?_ rfl F.out
      simp [results, Tryz.results49, go_sem, u0, u1]
    · have HIN := Lib.hid hin
      rw [hin] at HR0
      clear hin
      go_wp2_with (go_at_call 71; refine (HR0.out _).mono ?_; rintro e w' ⟨rfl, rfl⟩)
      refine (HLR.out _ (HL.out.later (Below.now HW1.out HB3.out))).mono ?_
      rintro e w4 ⟨h, hh, rfl, hb4⟩
      have HH := Lib.hid hh
      have HB4 := Lib.hid (Below.now HB3.out hb4)
      clear hh hb4 s0 s1 u0 u1 z0 z1 HR0
      obtain ⟨⟨s0, s1⟩, ⟨u0, u1⟩, z0, z1⟩ := HBX.out _ HB4.out
      by_cases h8 : 8 < h
      · have F : Hid (RetMon k R w (.returned (.tuple #[.agg #[.int .i64 0, .slice none 0 0], .slice none 0 0, .bool false])) ((w4.setCell ⟨w.heap.size + 1, 0, none⟩ (.int .i64 0)).setCell ⟨w.heap.size + 1, 1, none⟩ (.slice none 0 0))) := Lib.hid (RetMon.no (fun hg => by
          obtain ⟨_, _, h2, h3, h4⟩ := hg
          obtain rfl := h3.uniq HH.out
          omega) (((Below.now HW1.out HB4.out).setCell (by simp; try omega) _).setCell (by simp; try omega) _))
        go_wp2_with fail
        refine bodyPost_ret (v := .tuple #[.agg #[.int .i64 0, .slice none 0 0], .slice none 0 0, .bool false]) ?_ rfl F.out
        simp [results, Tryz.results49, go_sem, u0, u1]
      · have HGO : Hid (GoM k R) := Lib.hid ⟨HCP.out, ⟨c, HC.out, inB_bounds HIN.out⟩, h, HH.out, by omega⟩
        go_wp2_with fail
        refine (HAR.out _ (HL.out.later (Below.now HW1.out HB4.out))).mono ?_
        rintro e w5 ⟨L, f, aL, cL, hal, rfl, hol, hb5⟩
        obtain rfl : f = true := by
          rcases hal with ⟨h1, _⟩ | ⟨_, _, _, _, _, _, h1, _⟩
          · exact absurd ⟨c, HC.out, by have := inB_bounds HIN.out; omega, by have := inB_bounds HIN.out; omega⟩ h1
          · exact h1
        have HAL := Lib.hid hal
        have HMW := Lib.hid (HGO.out.words hal)
        have hlen40 := HMW.out.few
        have HB5 := Lib.hid (Below.now HB4.out hb5)
        have HOL : Hid (w5.ownsRow (w.heap.size + 2) 9 1 (.slice aL L.length cL) L.length (strVals L)) := Lib.hid (owns_mono hol (by have := HB4.out.size; have := HZ.out; omega))
        have HSL : Hid (StrsIn w5 aL L) := Lib.hid (owns_cells hol)
        have HST : Hid (MonSt w5 (w5.alloc (.cells #[.int .i64 (L.length : Nat), .slice none 0 0] 25)) w5.heap.size L (prodTo R L 0 0)) := Lib.hid ⟨_, Rec2.start _ _ 1 (Below.refl _ _) _⟩
        clear hal hol hb5 s0 s1 u0 u1 z0 z1 h8 HB3 HB4
        go_wp2_with fail
        generalize w5.alloc (.cells #[.int .i64 (L.length : Nat), .slice none 0 0] 25) = w6 at *
        generalize hg : w5.heap.size = g at *
        have HG := Lib.hid hg
        clear hg
        go_loopw [39] (fun vi wr => ∃ i : Nat, i ≤ L.length ∧ vi = .int .i64 i ∧ Hid (MonSt w5 wr g L (prodTo R L i 0))) (fun vi _ => L.length - (intOf vi).toNat)
        case atStart => exact ⟨0, Nat.zero_le _, rfl, HST⟩
        case round =>
          clear HST
          obtain ⟨i, hi, rfl, HST⟩ := hrel
          obtain ⟨vt, HR⟩ := HST.out
          have HRH := Lib.hid HR
          have hbw := HR.below
          by_cases hlt : i < L.length
          · obtain ⟨b, off, rfl, hb, hc⟩ := (HSL.out.later hbw).cell hlt
            have c1 := hc i hlt
            clear hc hbw HR
            have HWP : Hid (∀ j, j < L.length → wordOkB k (nthS L i ++ nthS L j) = true ∧ (nthS L i).size + (nthS L j).size ≤ 16) := Lib.hid (fun j hj => HMW.out.pair hlt hj)
            have HPS := Lib.hid (fun j => prodTo_step R L i j)
            generalize hu : nthS L i = u at *
            have HU := Lib.hid hu
            clear hu
            go_wp2_with fail
            generalize hW : wr = wr0 at *
            clear hW
            go_loopw [45] (fun vj wr => ∃ j : Nat, j ≤ L.length ∧ vj = .int .i64 j ∧ Hid (MonSt w5 wr g L (prodTo R L i j))) (fun vj _ => L.length - (intOf vj).toNat)
            case atStart => exact ⟨0, Nat.zero_le _, rfl, HST⟩
            case round =>
              clear HST HRH
              obtain ⟨j, hj, rfl, HST⟩ := hrel
              obtain ⟨v0, HR⟩ := HST.out
              have HRH := Lib.hid HR
              have hbw := HR.below
              by_cases hjl : j < L.length
              · obtain ⟨b2, off2, ha2, hb2, hc2⟩ := (HSL.out.later hbw).cell hjl
                cases ha2
                have c2 := hc2 j hjl
                obtain ⟨hwok, hsz⟩ := HWP.out j hjl
                have HWO := Lib.hid hwok
                obtain ⟨⟨s0, s1⟩, _, _, _⟩ := HBX.out wr (Below.now HB5.out hbw)
                have hx1 : ¬ 9223372036854775807 < u.size + (nthS L j).size := by omega
                have HNC := Lib.hid (HNF.out (u ++ nthS L j) wr (HL.out.later (Below.now HW1.out (Below.now HB5.out hbw))) HCP.out.1 hwok)
                have HP1 := Lib.hid (HPS.out j)
                clear hc2 hbw HR hwok
                generalize nthS L j = y at *
                go_wp2_with fail
                refine HNC.out.mono ?_
                rintro e w7 ⟨x, hx, rfl, hb7⟩
                obtain rfl := nfC_eq hx
                have HR7 := Lib.hid (HRH.out.later hb7)
                obtain ⟨_, t1, _, f1⟩ := HR7.out.facts
                have HS7 := Lib.hid (fun W (hW : Below w7.heap.size w7 W) => HSL.out.later (Below.now HR7.out.below hW))
                have hgl := HR7.out.lt
                have hxl := prodTo_few hlen40 (R := R) hi hj
                clear hx hb7 HRH s0 s1 c1 c2 HNC HWO
                generalize nfC R (u ++ y) = x at *
                have HFD := Lib.hid (fun W h => l08Find_any x L (some ⟨b, off, none⟩) cL W h (by omega))
                generalize idxB L x = z at *
                have HXS : Hid (∃ xs, xs = prodTo R L i j) := Lib.hid ⟨_, rfl⟩
                generalize prodTo R L i j = xs at *
                have M1 : Hid (∀ u ∈ [Value.int .i64 z], u.oneCell' = true) := Lib.hid (fun u hu => by rw [List.mem_singleton.1 hu]; rfl)
                have N3 : Hid (xs.length + 1 ≤ maxLen) := Lib.hid (by unfold maxLen; omega)
                have N4 : Hid ((xs.length + 1) * 8 ≤ 140737488355328) := Lib.hid (by omega)
                clear hxl HXS
                go_wp2_with fail
                have kr := Below.refl w7.heap.size w7
                go_region_law (first
                  | (go_simp; go_at_call 76; refine (HFD.out _ (HS7.out _ (by repeat (first | exact kr | refine Below.drew ?_ | refine below_drewN ?_ _)))).mono ?_; rintro e w8 ⟨rfl, hb8⟩; replace kr : Below w7.heap.size w7 w8 := Below.now (by repeat (first | exact kr | refine Below.drew ?_ | refine below_drewN ?_ _)) hb8; have HR8 := Lib.hid (HR7.out.later kr); have q0 := HR8.out.facts.2.1; have q2 : ∀ ob, (w8.alloc ob).cell? ⟨g, 1, none⟩ = some v0 := fun ob => (HR8.out.later (alloc_belowS w8 ob)).facts.2.1; clear hb8)
                  | (refine step_appH rfl (.tmp 58) (.tmp 62) (by rfl) Tryz.underlying23 Tryz.infoInt rfl (by decide) (by rfl) HR8.out.own HR8.out.lt (by rfl) (by rfl) M1.out N3.out N4.out ?_; intro g4 c4 w9 hn9 hg9; have P9 := Lib.hid (HR8.out.put (Below.refl _ _) hg9 hn9); have q9 := rec_cells (HR8.out.grown (Below.refl _ _) hg9); obtain ⟨_, q1, _, q3⟩ := q9; clear hn9 hg9))
                all_goals
                  have F : Hid (MonSt w5 (w9.setCell ⟨g, 1, none⟩ (.slice (some ⟨g4, 0, none⟩) (xs.length + 1) c4)) g L (prodTo R L i (j + 1))) := Lib.hid ⟨_, by rw [HP1.out, intVals_one, List.length_append]; exact P9.out⟩
                  clear q0 q1 q2 q3 t1 f1
                  go_wp2_with fail
                  go_roundw
                  case rel => exact ⟨j + 1, by omega, by go_num, F⟩
                  case measure => simp [intOf]; omega
              · obtain rfl : j = L.length := by omega
                have F : Hid (MonSt w5 wr g L (prodTo R L (i + 1) 0)) := Lib.hid (by rw [← prodTo_next]; exact HST.out)
                clear HR hbw
                go_wp2_with fail
                go_roundw
                case rel => exact ⟨i + 1, by omega, by go_num, F⟩
                case measure => simp [intOf]; omega
          · obtain rfl : i = L.length := by omega
            obtain ⟨aP, cP, hv⟩ := owns_form HR.own
            subst hv
            obtain ⟨t0, t1, _, _⟩ := HR.facts
            obtain ⟨_, ⟨u0, u1⟩, z0, z1⟩ := HBX.out wr (Below.now HB5.out hbw)
            have hg1 : w.heap.size + 2 ≤ g := by have := HB5.out.size; have := HZ.out; have := HG.out; omega
            have hPL : prodTo R L L.length 0 = prodF R L := prodTo_done R L
            rw [hPL] at HRH t1 HR
            have F : Hid (RetMon k R w (.returned (.tuple #[.agg #[.int .i64 (L.length : Nat), .slice aP (prodF R L).length cP], .slice aL L.length cL, .bool true])) ((wr.setCell ⟨w.heap.size + 1, 0, none⟩ (.int .i64 (L.length : Nat))).setCell ⟨w.heap.size + 1, 1, none⟩ (.slice aP (prodF R L).length cP))) :=
              Lib.hid ⟨L, prodF R L, true, aP, aL, cP, cL, .inr ⟨HGO.out, HAL.out, rfl, rfl⟩, rfl,
                owns_mono (ownsRow_setCell_below (ownsRow_setCell_below HRH.out.own (by show w.heap.size + 1 < g + 1; omega) _) (by show w.heap.size + 1 < g + 1; omega) _) (by omega),
                owns_mono (ownsRow_setCell_below (ownsRow_setCell_below (owns_later HOL.out HRH.out.below) (by show w.heap.size + 1 < w.heap.size + 2; omega) _) (by show w.heap.size + 1 < w.heap.size + 2; omega) _) (by omega),
                ((Below.now HW1.out (Below.now HB5.out hbw)).setCell (by simp; try omega) _).setCell (by simp; try omega) _⟩
            clear hPL hbw HR
            go_wp2_with fail
            refine bodyPost_ret (v := .tuple #[.agg #[.int .i64 (L.length : Nat), .slice aP (prodF R L).length cP], .slice aL L.length cL, .bool true]) ?_ rfl F.out
            simp [results, Tryz.results49, go_sem, u0, u1]
end Go.Proofs.YtmgdglghjlggnaaGreat
