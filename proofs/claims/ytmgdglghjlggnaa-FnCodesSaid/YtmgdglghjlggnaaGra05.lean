/-
  What the reference draws: numbers below a bound, words.
-/
import Derived.Test.YtmgdglghjlggnaaGra04
import Derived.Test.YtmgdglghjlggnaaGra01
import Derived.Test.YtmgdglghjlggnaaGra02
import Derived.Laws.BitsLemmas
import Derived.Laws.BitsAllLaws
import Derived.Deep.DeepCutAuto
import Derived.Laws.BytesArg
namespace Go.Proofs.Ytmgdglghjlggnaa
open Go.RowKit
set_option linter.unusedVariables false
/-- the bytes from m on, turned round -/
def revFrom (s : ByteArray) (m : Nat) : ByteArray := ⟨(s.data.toList.drop m).reverse.toArray⟩
def revB (s : ByteArray) : ByteArray := revFrom s 0
theorem revFrom_size {s : ByteArray} {m : Nat} (h : m ≤ s.size) : (revFrom s m).size = s.size - m := by
  show ((s.data.toList.drop m).reverse.toArray).size = _
  simp
theorem revB_size (s : ByteArray) : (revB s).size = s.size := by unfold revB; rw [revFrom_size (Nat.zero_le _)]; rfl
theorem ba_ext {a b : ByteArray} (h : a.data.toList = b.data.toList) : a = b := blW_inj h
theorem revB_list (s : ByteArray) : (revB s).data.toList = s.data.toList.reverse := by unfold revB revFrom; simp
theorem revB_inj {a b : ByteArray} (h : revB a = revB b) : a = b := by
  apply ba_ext
  have h1 := congrArg (fun x => x.data.toList) h
  simp only [revB_list] at h1
  exact List.reverse_inj.1 h1
theorem revB_ltrs (p : UInt8 → Bool) (s : ByteArray) : allB p (revB s) = allB p s := by
  unfold allB
  rw [revB_list, List.all_reverse]
theorem revB_word (k : Int) (s : ByteArray) : wordOkB k (revB s) = wordOkB k s := by unfold wordOkB; rw [revB_size, revB_ltrs]
theorem nthS_map {l : List ByteArray} {f : ByteArray → ByteArray} {i : Nat} (h : i < l.length) : nthS (l.map f) i = f (nthS l i) := by
  rw [nthS_lt (by simpa using h), nthS_lt h, List.getElem_map]
theorem listP_rev {l : List ByteArray} (h : listP l) : listP (l.map revB) := by
  refine ⟨by simpa using h.1, fun i hi => ?_⟩
  have hi2 : i < l.length := by simpa using hi
  obtain ⟨h1, h2, h3⟩ := h.2 i hi2
  unfold wordP
  rw [nthS_map hi2, revB_word, revB_size]
  refine ⟨h1, h2, fun hm => h3 ?_⟩
  rw [← List.map_take] at hm
  obtain ⟨x, hx, he⟩ := List.mem_map.1 hm
  rw [← revB_inj he]; exact hx
/-- p ends s -/
def endP (s p : ByteArray) : Prop := p.size ≤ s.size ∧ s.extract (s.size - p.size) s.size = p
theorem endP_iff {s p : ByteArray} : endP s p ↔ p.data.toList <:+ s.data.toList := by
  unfold endP
  have hl : ∀ s : ByteArray, s.data.toList.length = s.size := fun s => rfl
  have hx : p.size ≤ s.size → (s.extract (s.size - p.size) s.size).data.toList = s.data.toList.drop (s.size - p.size) := fun h => by
    rw [ByteArray.data_extract, Array.toList_extract, List.extract_eq_take_drop, List.take_of_length_le (by rw [List.length_drop, hl]; exact Nat.le_refl _)]
  constructor
  · rintro ⟨h1, h2⟩
    rw [← h2, hx h1]
    exact List.drop_suffix _ _
  · rintro ⟨t, ht⟩
    have h1 : p.size ≤ s.size := by rw [← hl, ← hl, ← ht, List.length_append]; omega
    refine ⟨h1, ba_ext ?_⟩
    rw [hx h1, ← ht, List.drop_left']
    have := congrArg List.length ht
    rw [List.length_append, hl, hl] at this
    omega
theorem begP_iff {s p : ByteArray} : begP s p ↔ p.data.toList <+: s.data.toList := by
  unfold begP
  have hl : ∀ s : ByteArray, s.data.toList.length = s.size := fun s => rfl
  have hx : (s.extract 0 p.size).data.toList = s.data.toList.take p.size := by
    rw [ByteArray.data_extract, Array.toList_extract, List.extract_eq_take_drop]; simp
  constructor
  · rintro ⟨h1, h2⟩
    rw [← h2, hx]
    exact List.take_prefix _ _
  · rintro ⟨t, ht⟩
    have h1 : p.size ≤ s.size := by rw [← hl, ← hl, ← ht, List.length_append]; omega
    refine ⟨h1, ba_ext ?_⟩
    rw [hx, ← ht, List.take_left' (hl p)]
theorem begP_rev {s p : ByteArray} : begP (revB s) (revB p) ↔ endP s p := by
  rw [begP_iff, endP_iff, revB_list, revB_list, List.reverse_prefix]
def mirL (l : List ByteArray) : List ByteArray := l.map revB
def mirTo (l : List ByteArray) (j : Nat) : List ByteArray := (l.take j).map revB
/-- a prefix code, a suffix code -/
def prefP (l : List ByteArray) : Prop := listP l ∧ ∀ x ∈ l, ∀ y ∈ l, x ≠ y → ¬ begP x y
def suffP (l : List ByteArray) : Prop := listP l ∧ ∀ x ∈ l, ∀ y ∈ l, x ≠ y → ¬ endP x y
theorem prefP_rev {l : List ByteArray} (h : listP l) : prefP (mirL l) ↔ suffP l := by
  constructor
  · rintro ⟨_, h2⟩
    exact ⟨h, fun x hx y hy hne he => h2 _ (List.mem_map_of_mem hx) _ (List.mem_map_of_mem hy) (fun e => hne (revB_inj e)) (begP_rev.2 he)⟩
  · rintro ⟨_, h2⟩
    refine ⟨listP_rev h, fun x hx y hy hne he => ?_⟩
    obtain ⟨x', hx', rfl⟩ := List.mem_map.1 hx
    obtain ⟨y', hy', rfl⟩ := List.mem_map.1 hy
    exact h2 x' hx' y' hy' (fun e => hne (by rw [e])) (begP_rev.1 he)
end Go.Proofs.Ytmgdglghjlggnaa
namespace Go.Proofs.Ytmgdglghjlggnaa
open Go.RowKit
set_option linter.unusedVariables false
def bwL (l : List ByteArray) : List Bw := l.map fun b => b.data.toList
theorem ba_inj {x y : ByteArray} (h : x.data.toList = y.data.toList) : x = y := by
  cases x; cases y
  simp only [ByteArray.mk.injEq]
  exact Array.toList_inj.1 h
theorem bwL_mem {l : List ByteArray} {b : ByteArray} : b.data.toList ∈ bwL l ↔ b ∈ l := by
  unfold bwL
  rw [List.mem_map]
  exact ⟨fun ⟨x, hx, e⟩ => ba_inj e ▸ hx, fun h => ⟨b, h, rfl⟩⟩
theorem tail_app {x y : ByteArray} (h : begP x y) : x.data.toList = y.data.toList ++ (tailB x y).data.toList := by
  obtain ⟨t, ht⟩ := begP_iff.1 h
  unfold tailB
  rw [ByteArray.data_extract, Array.toList_extract, List.extract_eq_take_drop, List.take_of_length_le (by rw [List.length_drop]; exact Nat.le_refl _), ← ht]
  congr 1
  rw [show y.size = y.data.toList.length from rfl, List.drop_left]
theorem app_tail {x y : ByteArray} {d : Bw} (h : x.data.toList = y.data.toList ++ d) : begP x y ∧ (tailB x y).data.toList = d := by
  have h1 : begP x y := begP_iff.2 ⟨d, h.symm⟩
  have h2 := tail_app h1
  rw [h] at h2
  exact ⟨h1, (List.append_cancel_left h2).symm⟩
theorem first_dang {l : List ByteArray} {u : ByteArray} (h : firstM l u) : Dang (bwL l) u.data.toList := by
  obtain ⟨x, hx, y, hy, hne, hb, rfl⟩ := h
  exact .one (bwL_mem.2 hy) (bwL_mem.2 hx) (fun e => hne (ba_inj e.symm)) (tail_app hb)
theorem next_dang {l X : List ByteArray} {u : ByteArray} (hX : ∀ t ∈ X, Dang (bwL l) t.data.toList) (h : nextM l X u) : Dang (bwL l) u.data.toList := by
  obtain ⟨t, ht, w, hw, h | h⟩ := h
  · obtain ⟨h0, hb, rfl⟩ := h
    exact .right (hX t ht) (fun e => h0 (by rw [show t.size = t.data.toList.length from rfl, e]; rfl)) (bwL_mem.2 hw) (tail_app hb)
  · obtain ⟨hb, rfl⟩ := h
    exact .left (hX t ht) (bwL_mem.2 hw) (tail_app hb)
theorem comes_dang {l : List ByteArray} : ∀ {out : List (List ByteArray)} {S : List ByteArray}, ComesT l out S → ∀ X ∈ S :: out, ∀ u ∈ X, Dang (bwL l) u.data.toList
  | [], S, h, X, hX, u, hu => by
    obtain rfl := List.mem_singleton.1 hX
    exact first_dang ((h.2 u).1 hu)
  | Y :: out, S, h, X, hX, u, hu => by
    have ih := comes_dang h.1
    rcases List.mem_cons.1 hX with rfl | hX
    · exact next_dang (fun t ht => ih Y (List.mem_cons_self ..) t ht) ((h.2.2 u).1 hu)
    · exact ih X hX u hu
theorem comes_next {l : List ByteArray} : ∀ {out : List (List ByteArray)} {S : List ByteArray}, ComesT l out S → ∀ X ∈ out, ∃ Y ∈ S :: out, ∀ u, nextM l X u → u ∈ Y
  | Y :: out, S, h, X, hX => by
    rcases List.mem_cons.1 hX with rfl | hX
    · exact ⟨S, List.mem_cons_self .., fun u hu => (h.2.2 u).2 hu⟩
    · obtain ⟨Z, hZ, hz⟩ := comes_next h.1 X hX
      exact ⟨Z, List.mem_cons_of_mem _ hZ, hz⟩
theorem comes_first {l : List ByteArray} : ∀ {out : List (List ByteArray)} {S : List ByteArray}, ComesT l out S → ∃ Y ∈ S :: out, ∀ u, firstM l u → u ∈ Y
  | [], S, h => ⟨S, List.mem_cons_self .., fun u hu => (h.2 u).2 hu⟩
  | Y :: out, S, h => by
    obtain ⟨Z, hZ, hz⟩ := comes_first h.1
    exact ⟨Z, List.mem_cons_of_mem _ hZ, hz⟩
theorem ends_in {l : List ByteArray} {out : List (List ByteArray)} {S : List ByteArray} (h : EndsT l out S) {X : List ByteArray} {u : ByteArray} (hX : X ∈ S :: out) (hu : u ∈ X) : X ∈ out := by
  rcases List.mem_cons.1 hX with rfl | hX
  · rcases h.2 with e | e
    · rw [e] at hu; cases hu
    · exact e
  · exact hX
theorem dang_ends {l : List ByteArray} {out : List (List ByteArray)} {S : List ByteArray} (h : EndsT l out S) {d : Bw} (hd : Dang (bwL l) d) : ∃ X ∈ out, ∃ u ∈ X, u.data.toList = d := by
  have up : ∀ {X : List ByteArray}, X ∈ out → ∀ u, nextM l X u → ∃ Y ∈ out, u ∈ Y := fun {X} hX u hu => by
    obtain ⟨Y, hY, hy⟩ := comes_next h.1 X hX
    exact ⟨Y, ends_in h hY (hy u hu), hy u hu⟩
  induction hd with
  | @one u v t hu hv hne e =>
    obtain ⟨x, hx, rfl⟩ := List.mem_map.1 hu
    obtain ⟨y, hy, rfl⟩ := List.mem_map.1 hv
    obtain ⟨h1, h2⟩ := app_tail e
    obtain ⟨Y, hY, hy2⟩ := comes_first h.1
    have hm := hy2 (tailB y x) ⟨y, hy, x, hx, fun e => hne (by rw [e]), h1, rfl⟩
    exact ⟨Y, ends_in h hY hm, _, hm, h2⟩
  | @left t w r _ hw e ih =>
    obtain ⟨X, hX, u, hu, rfl⟩ := ih
    obtain ⟨y, hy, rfl⟩ := List.mem_map.1 hw
    obtain ⟨h1, h2⟩ := app_tail e
    obtain ⟨Y, hY, hm⟩ := up hX (tailB u y) ⟨u, hu, y, hy, .inr ⟨h1, rfl⟩⟩
    exact ⟨Y, hY, _, hm, h2⟩
  | @right t w r _ hne hw e ih =>
    obtain ⟨X, hX, u, hu, rfl⟩ := ih
    obtain ⟨y, hy, rfl⟩ := List.mem_map.1 hw
    obtain ⟨h1, h2⟩ := app_tail e
    have h0 : u.size ≠ 0 := fun e0 => hne (List.eq_nil_of_length_eq_zero e0)
    obtain ⟨Y, hY, hm⟩ := up hX (tailB y u) ⟨u, hu, y, hy, .inl ⟨h0, h1, rfl⟩⟩
    exact ⟨Y, hY, _, hm, h2⟩
theorem bwL_ne {l : List ByteArray} (h : listP l) : ∀ v ∈ bwL l, v ≠ [] := fun v hv e => by
  obtain ⟨b, hb, rfl⟩ := List.mem_map.1 hv
  obtain ⟨i, hi, rfl⟩ := mem_nthS hb
  have := (h.2 i hi).2.1.1
  rw [show (nthS l i).size = (nthS l i).data.toList.length from rfl, e] at this
  cases this
/-- no word has two readings -/
def udP (l : List ByteArray) : Prop := listP l ∧ UD (bwL l)
theorem udP_of {l : List ByteArray} {out : List (List ByteArray)} {S : List ByteArray} (hl : listP l) (h1 : FreshT l out) (h2 : EndsT l out S) : udP l ↔ ∀ X ∈ out, ¬ (⟨#[]⟩ : ByteArray) ∈ X := by
  unfold udP
  rw [ud_iff (bwL_ne hl)]
  constructor
  · rintro ⟨_, h⟩ X hX hm
    exact h (comes_dang h2.1 X (List.mem_cons_of_mem _ hX) _ hm)
  · intro h
    refine ⟨hl, fun hd => ?_⟩
    obtain ⟨X, hX, u, hu, e⟩ := dang_ends h2 hd
    exact h X hX (by
      have : u = ⟨#[]⟩ := ba_inj e
      rw [← this]; exact hu)
theorem udP_rev {l : List ByteArray} (h : listP l) : udP (mirL l) ↔ udP l := by
  have e : bwL (mirL l) = (bwL l).map List.reverse := by
    unfold bwL mirL
    rw [List.map_map, List.map_map]
    refine List.map_congr_left fun x _ => ?_
    exact revB_list x
  unfold udP
  constructor
  · rintro ⟨_, h2⟩
    rw [e] at h2
    have h3 := h2.mirror
    rw [List.map_map, show List.reverse ∘ List.reverse = (id : Bw → Bw) from funext fun x => List.reverse_reverse x, List.map_id] at h3
    exact ⟨h, h3⟩
  · rintro ⟨_, h2⟩
    exact ⟨listP_rev h, by rw [e]; exact h2.mirror⟩
theorem pref_ud {l : List ByteArray} (h : prefP l) : udP l := by
  refine ⟨h.1, ud_prefix (bwL_ne h.1) fun u hu v hv t e => ?_⟩
  obtain ⟨x, hx, rfl⟩ := List.mem_map.1 hu
  obtain ⟨y, hy, rfl⟩ := List.mem_map.1 hv
  by_cases hne : y = x
  · rw [hne]
  · exact absurd (app_tail e).1 (h.2 y hy x hx hne)
theorem suff_ud {l : List ByteArray} (h : suffP l) : udP l := (udP_rev h.1).1 (pref_ud ((prefP_rev h.1).2 h))
end Go.Proofs.Ytmgdglghjlggnaa
namespace Go.Proofs.Ytmgdglghjlggnaa
open Go.RowKit
set_option linter.unusedVariables false
theorem and255 (n : Int) : bits .and .i64 n 255 = n % 256 := by
  have h255 : (BitVec.ofInt 64 255).toNat = 2 ^ 8 - 1 := by decide
  have key : (BitVec.ofInt 64 n &&& BitVec.ofInt 64 255).toNat = (n % ((2 ^ 64 : Nat) : Int)).toNat % 2 ^ 8 := by
    rw [BitVec.toNat_and, BitVec.toNat_ofInt, h255, Nat.and_two_pow_sub_one_eq_mod]
  show IntKind.i64.wrap ((BitVec.ofInt 64 n &&& BitVec.ofInt 64 255).toNat : Nat) = n % 256
  rw [key, IntKind.wrap_i64]
  omega
/-- a slice of bytes -/
def BytesIn (w : World) (a : Option Addr) (l : List UInt8) : Prop := CellsIn w a (l.map fun c => Value.int .u8 (c.toNat : Int))
theorem BytesIn.later {w w' : World} {a : Option Addr} {l : List UInt8} (h : BytesIn w a l) (hb : Below w.heap.size w w') : BytesIn w' a l := CellsIn.later h hb
theorem BytesIn.cell {w : World} {a : Option Addr} {l : List UInt8} (h : BytesIn w a l) {i : Nat} (hi : i < l.length) :
    ∃ b off, a = some ⟨b, off, none⟩ ∧ b < w.heap.size ∧ ∃ c : Nat, c < 256 ∧ w.cell? ⟨b, off + i, none⟩ = some (.int .u8 (c : Nat)) := by
  rcases h with h | ⟨b, off, ha, hc⟩
  · have : l = [] := by simpa using h
    subst this; simp at hi
  · have h1 := hc i (by simpa using hi)
    rw [List.getElem_map] at h1
    exact ⟨b, off, ha, World.block_lt_of_cell? w _ h1, l[i].toNat, l[i].toNat_lt, h1⟩
/-- a cursor in block B over n bytes -/
def CurAt (w : World) (B : Nat) (a : Option Addr) (n cap : Nat) : Prop := ∃ (i : Nat) (h : Int), w.heap[B]? = some (.cells #[.slice a n cap, .int .i64 (i : Nat), .int .i64 h] 65 (0, 0)) ∧ i ≤ n
theorem CurAt.lt {w : World} {B : Nat} {a : Option Addr} {n cap : Nat} (h : CurAt w B a n cap) : B < w.heap.size := by
  obtain ⟨i, h, h1, _⟩ := h
  exact (Array.getElem?_eq_some_iff.1 h1).1
theorem CurAt.later {w w' : World} {B : Nat} {a : Option Addr} {n cap : Nat} (h : CurAt w B a n cap) (hb : Below w.heap.size w w') : CurAt w' B a n cap := by
  have hl := h.lt
  obtain ⟨i, h, h1, h2⟩ := h
  exact ⟨i, h, by rw [hb.block B hl]; exact h1, h2⟩
theorem BytesIn.grown {w w' : World} {B : Nat} {a : Option Addr} {l : List UInt8} (h : BytesIn w a l) (hg : w.grownBy w' (some B)) (hB : l ≠ [] → ∀ x, a = some x → x.block ≠ B) : BytesIn w' a l := by
  rcases h with h | ⟨b, off, ha, hc⟩
  · exact .inl h
  · refine .inr ⟨b, off, ha, fun i hi => ?_⟩
    rw [World.cell?_of_block (w := w) (hg.block b (World.block_lt_of_cell? w _ (hc i hi)) (fun e => hB (fun e2 => by subst e2; simp at hi) _ ha (Option.some.inj e)))]
    exact hc i hi
/-- behind a byte's first steps -/
def CurP (w : World) (B : Nat) (a : Option Addr) (n cap i : Nat) (v : Value) (wx : World) : Prop := ∃ (x : Nat) (h2 : Int), x < 256 ∧ v = .int .i64 ((x : Nat) : Int) ∧ wx.heap[B]? = some (.cells #[.slice a n cap, .int .i64 (i : Nat), .int .i64 h2] 65 (0, 0)) ∧ w.grownBy wx (some B)
theorem CurP.mk {w : World} {B : Nat} {a : Option Addr} {n cap i : Nat} {v h2 : Int} {wx : World} (hb : wx.heap[B]? = some (.cells #[.slice a n cap, .int .i64 (i : Nat), .int .i64 h2] 65 (0, 0))) (hg : w.grownBy wx (some B)) : CurP w B a n cap i (.int .i64 (v % 256)) wx :=
  ⟨(v % 256).toNat, h2, by omega, by rw [Int.toNat_of_nonneg (by omega)], hb, hg⟩
theorem cellsCur {w : World} {B : Nat} {x y z : Value} {T : TypeId} (h : w.heap[B]? = some (.cells #[x, y, z] T (0, 0))) : w.cell? ⟨B, 0, none⟩ = some x ∧ w.cell? ⟨B, 1, none⟩ = some y ∧ w.cell? ⟨B, 2, none⟩ = some z ∧ (∀ i, w.frozen? ⟨B, i, none⟩ = false) := by
  refine ⟨by rw [cell_of_row _ _ 0 _ _ _ h]; rfl, by rw [cell_of_row _ _ 1 _ _ _ h]; rfl, by rw [cell_of_row _ _ 2 _ _ _ h]; rfl, fun i => by simp [World.frozen?, h]⟩
theorem setCur2 {w : World} {B : Nat} {x y z : Value} {T : TypeId} (h : w.heap[B]? = some (.cells #[x, y, z] T (0, 0))) (v : Value) : (w.setCell ⟨B, 2, none⟩ v).heap[B]? = some (.cells #[x, y, v] T (0, 0)) := by
  unfold World.setCell
  rw [Array.getElem?_modify, if_pos rfl, h]
  rfl
theorem setCur1 {w : World} {B : Nat} {x y z : Value} {T : TypeId} (h : w.heap[B]? = some (.cells #[x, y, z] T (0, 0))) (v : Value) : (w.setCell ⟨B, 1, none⟩ v).heap[B]? = some (.cells #[x, v, z] T (0, 0)) := by
  unfold World.setCell
  rw [Array.getElem?_modify, if_pos rfl, h]
  rfl
theorem setGrown (w : World) (B o : Nat) (v : Value) : w.grownBy (w.setCell ⟨B, o, none⟩ v) (some B) := by
  have hszc : (w.setCell ⟨B, o, none⟩ v).heap.size = w.heap.size := by simp
  exact ⟨rfl, rfl, rfl, by rw [hszc]; exact Nat.le_refl _, fun k hk hne => by
    unfold World.setCell
    rw [Array.getElem?_modify, if_neg (fun e : B = k => hne (by rw [e]))]⟩
theorem grown_tr {w w1 w2 : World} {r : Option Nat} (h : w.grownBy w1 r) (h' : w1.grownBy w2 r) : w.grownBy w2 r :=
  ⟨h'.os.trans h.os, h'.tape.trans h.tape, h'.output.trans h.output, Nat.le_trans h.size h'.size, fun k hk hne => (h'.block k (Nat.lt_of_lt_of_le hk h.size) hne).trans (h.block k hk hne)⟩
theorem grown_drewN {w w1 : World} {r : Option Nat} (h : w.grownBy w1 r) (n : Nat) : w.grownBy (w1.drewN n) r := ⟨h.os, h.tape, h.output, h.size, h.block⟩
/-- what a byte's call leaves -/
def RetByte (B : Nat) (a : Option Addr) (n cap : Nat) (w : World) (e : Ending) (w' : World) : Prop := ∃ x : Nat, x < 256 ∧ e = .returned (.int .i64 ((x : Nat) : Int)) ∧ CurAt w' B a n cap ∧ w.grownBy w' (some B)
set_option maxRecDepth 20000 in
set_option maxHeartbeats 2000000 in
theorem l01Byte_any (B : Nat) (a : Option Addr) (l : List UInt8) (cap : Nat) (w : World) (hc : CurAt w B a l.length cap) (hl : BytesIn w a l) (hB : l ≠ [] → ∀ x, a = some x → x.block ≠ B) (hlen : l.length ≤ 2 ^ 40) :
    Calls Try.prog 18 #[.pointer (some ⟨B, 0, none⟩)] w (RetByte B a l.length cap w) := by
  obtain ⟨i, h, hblk, hi⟩ := hc
  have h255 := and255
  obtain ⟨c0, c1, c2, cf⟩ := cellsCur hblk
  have cf2 := cf 2
  have HB2 := Lib.hid (fun v => setCur2 hblk v)
  have g0 : ∀ v, (w.setCell ⟨B, 2, none⟩ v).cell? ⟨B, 2, none⟩ = some v := fun v => (cellsCur (HB2.out v)).2.2.1
  clear cf
  have HL := Lib.hid hl
  have HBB := Lib.hid hB
  clear hl hB
  go_enter Try.func18, Try.ntmps18
  go_upto_region 2 with fail
  go_cut [3] (fun v wx => CurP w B a l.length cap i v wx)
  case first =>
    go_quiet (fail)
    go_wp2_with fail
    go_meet
    exact CurP.mk (by simpa using HB2.out _) (grown_drewN (setGrown _ _ _ _) _)
  case rest =>
    obtain ⟨x, h2, hx, rfl, hblk2, hg2⟩ := hcut
    have HG2 := Lib.hid hg2
    have HL2 := Lib.hid (HL.out.grown hg2 HBB.out)
    have HK2 := Lib.hid hblk2
    clear c0 c1 c2 cf2 HB2 g0 hblk hg2 HL
    obtain ⟨c0, c1, c2, cf⟩ := cellsCur hblk2
    have cf1 := cf 1
    clear cf hblk2
    by_cases hlt : i < l.length
    · obtain ⟨b, off, rfl, hb, c, hc, hcell⟩ := HL2.out.cell hlt
      have hil : (i : Int) < (l.length : Int) := by omega
      have hi0 : (0 : Int) ≤ (i : Int) := by omega
      go_wp2_with fail
      go_quiet (fail)
      go_upto_region 4 with fail
      go_cut [3] (fun v wx => CurP w B (some ⟨b, off, none⟩) l.length cap i v wx)
      case first =>
        go_quiet (fail)
        go_wp2_with fail
        go_meet
        exact CurP.mk (by simpa using HK2.out) (by first | exact grown_drewN HG2.out _ | exact grown_drewN (grown_drewN HG2.out _) _)
      case rest =>
        obtain ⟨x3, h3, hx3, rfl, hblk3, hg3⟩ := hcut
        have HG3 := Lib.hid hg3
        have HB3 := Lib.hid (fun v => setCur1 hblk3 v)
        clear c0 c1 c2 cf1 HK2 hcell hg3
        obtain ⟨c0, c1, c2, cf⟩ := cellsCur hblk3
        have cf1 := cf 1
        clear cf hblk3
        go_wp2_with fail
        go_ret
        exact ⟨x3, hx3, rfl, ⟨i + 1, h3, by rw [HB3.out]; simp, by omega⟩, grown_tr HG3.out (setGrown _ _ _ _)⟩
    · have hil : ¬ (i : Int) < (l.length : Int) := by omega
      go_wp2_with fail
      go_quiet (fail)
      go_wp2_with fail
      go_ret
      exact ⟨x, hx, rfl, ⟨i, h2, HK2.out, hi⟩, grown_drewN HG2.out _⟩
/-- a new cursor -/
def RetCur (a : Option Addr) (n cap : Nat) (w : World) (e : Ending) (w' : World) : Prop := e = .returned (.pointer (some ⟨w.heap.size, 0, none⟩)) ∧ CurAt w' w.heap.size a n cap ∧ Below w.heap.size w w'
theorem RetCur.mk {a : Option Addr} {n cap : Nat} {w : World} (h : Int) : RetCur a n cap w (.returned (.pointer (some ⟨w.heap.size, 0, none⟩))) (w.alloc (.cells #[.slice a n cap, .int .i64 0, .int .i64 h] 65)) :=
  ⟨rfl, ⟨0, h, by unfold World.alloc; simp, Nat.zero_le _⟩, (Below.refl _ _).alloc (Nat.le_refl _) _⟩
set_option maxRecDepth 20000 in
set_option maxHeartbeats 2000000 in
theorem l01New_any (a : Option Addr) (l : List UInt8) (cap : Nat) (w : World) (hl : BytesIn w a l) (hlen : l.length ≤ 2 ^ 40) :
    Calls Try.prog 38 #[.slice a l.length cap] w (RetCur a l.length cap w) := by
  have HL := Lib.hid hl
  clear hl
  go_enter Try.func38, Try.ntmps38
  go_wp2_with fail
  go_loop [3, 4] (fun h i => ∃ (j : Nat) (z : Int), j ≤ l.length ∧ i = .int .i64 (j : Nat) ∧ h = .int .i64 z) (fun _ i => l.length - (intOf i).toNat)
  case atStart => exact ⟨0, _, Nat.zero_le _, rfl, rfl⟩
  case round =>
    obtain ⟨j, z, hj, rfl, rfl⟩ := hrel
    by_cases hlt : j < l.length
    · obtain ⟨b, off, rfl, hb, c, hc, hcell⟩ := HL.out.cell hlt
      by_cases h4 : j < 4000
      · go_wp2_with fail
        go_round
        case rel => exact ⟨j + 1, _, by omega, by go_num, rfl⟩
        case measure => simp [intOf]; omega
      · go_wp2_with fail
        go_ret
        exact RetCur.mk _
    · go_wp2_with fail
      go_ret
      exact RetCur.mk _
theorem curNe {w : World} {a : Option Addr} {l : List UInt8} (hl : BytesIn w a l) (hne : l ≠ []) : ∀ x, a = some x → x.block < w.heap.size := by
  rintro x rfl
  obtain ⟨b, off, ha, hb, _⟩ := hl.cell (i := 0) (by cases l with | nil => exact absurd rfl hne | cons => simp)
  obtain rfl := Option.some.inj ha
  exact hb
/-- what a cursor is read with -/
structure CurOk (w : World) (B : Nat) (a : Option Addr) (l : List UInt8) (cap : Nat) : Prop where
  at_ : CurAt w B a l.length cap
  bytes : BytesIn w a l
  ne : l ≠ [] → ∀ x, a = some x → x.block ≠ B
  len : l.length ≤ 2 ^ 40
theorem CurOk.later {w w' : World} {B : Nat} {a : Option Addr} {l : List UInt8} {cap : Nat} (h : CurOk w B a l cap) (hb : Below w.heap.size w w') : CurOk w' B a l cap := ⟨h.at_.later hb, h.bytes.later hb, h.ne, h.len⟩
theorem CurOk.next {w w' : World} {B : Nat} {a : Option Addr} {l : List UInt8} {cap : Nat} (h : CurOk w B a l cap) (hc : CurAt w' B a l.length cap) (hg : w.grownBy w' (some B)) : CurOk w' B a l cap := ⟨hc, h.bytes.grown hg h.ne, h.ne, h.len⟩
theorem byte_cur {w : World} {B : Nat} {a : Option Addr} {l : List UInt8} {cap : Nat} (h : CurOk w B a l cap) :
    Calls Try.prog 18 #[.pointer (some ⟨B, 0, none⟩)] w fun e w' => ∃ x : Nat, x < 256 ∧ e = .returned (.int .i64 ((x : Nat) : Int)) ∧ CurOk w' B a l cap ∧ w.grownBy w' (some B) :=
  (l01Byte_any B a l cap w h.at_ h.bytes h.ne h.len).mono fun _ _ ⟨x, hx, he, hc, hg⟩ => ⟨x, hx, he, h.next hc hg, hg⟩
theorem below_curs {w0 w w' : World} {B : Nat} (h : Below w0.heap.size w0 w) (hg : w.grownBy w' (some B)) (hB : w0.heap.size ≤ B) : Below w0.heap.size w0 w' :=
  h.grown hg h.size (fun k hk => by have := Option.some.inj hk; omega)
theorem RetCur.ok {a : Option Addr} {l : List UInt8} {cap : Nat} {w w' : World} {e : Ending} (h : RetCur a l.length cap w e w') (hl : BytesIn w a l) (hlen : l.length ≤ 2 ^ 40) : CurOk w' w.heap.size a l cap :=
  ⟨h.2.1, hl.later h.2.2, fun hne x hx => Nat.ne_of_lt (curNe hl hne x hx), hlen⟩
set_option maxRecDepth 20000 in
set_option maxHeartbeats 2000000 in
theorem l31New_any (a : Option Addr) (l : List UInt8) (cap k : Nat) (w : World) (hl : BytesIn w a l) (hlen : l.length ≤ 2 ^ 40) (hk : k ≤ 1000) :
    Calls Try.prog 17 #[.slice a l.length cap, .int .i64 (k : Nat)] w fun e w' => e = .returned (.pointer (some ⟨w.heap.size, 0, none⟩)) ∧ CurOk w' w.heap.size a l cap ∧ Below w.heap.size w w' := by
  have HN := Lib.hid (l01New_any a l cap w hl hlen)
  have HL := Lib.hid hl
  clear hl
  go_enter Try.func17, Try.ntmps17
  go_wp2_with fail
  refine HN.out.mono ?_
  rintro e w2 hr
  obtain ⟨rfl, _⟩ := id hr
  have HC := Lib.hid (hr.ok HL.out hlen)
  have HB := Lib.hid hr.2.2
  clear hr HN
  go_wp2_with fail
  go_loopw [6] (fun i wr => ∃ j : Nat, j ≤ k ∧ i = .int .i64 (j : Nat) ∧ CurOk wr w.heap.size a l cap ∧ Below w.heap.size w wr) (fun i _ => k - (intOf i).toNat)
  case atStart => exact ⟨0, Nat.zero_le _, rfl, HC.out, HB.out⟩
  case round =>
    clear HC HB
    obtain ⟨j, hj, rfl, hc, hb⟩ := hrel
    have HC := Lib.hid hc
    have HB := Lib.hid hb
    clear hc hb
    by_cases hlt : j < k
    · go_wp2_with fail
      refine (byte_cur HC.out).mono ?_
      rintro e w3 ⟨x, hx, rfl, hc3, hg3⟩
      have HC3 := Lib.hid hc3
      have HB3 := Lib.hid (below_curs HB.out hg3 (Nat.le_refl _))
      clear hc3 hg3
      go_wp2_with fail
      go_roundw
      case rel => exact ⟨j + 1, by omega, by go_num, HC3.out, HB3.out⟩
      case measure => simp [intOf]; omega
    · go_wp2_with fail
      go_ret
      exact ⟨rfl, HC.out, HB.out⟩
set_option maxRecDepth 20000 in
set_option maxHeartbeats 2000000 in
theorem makeNum_any (a : Option Addr) (l : List UInt8) (cap k : Nat) (w : World) (hl : BytesIn w a l) (hlen : l.length ≤ 2 ^ 40) (hk : k ≤ 1000) :
    Calls Try.prog 5 #[.slice a l.length cap, .int .i64 (k : Nat)] w fun e w' => ∃ x : Nat, x < 65536 ∧ e = .returned (.int .i64 ((x : Nat) : Int)) ∧ Below w.heap.size w w' := by
  have HN := Lib.hid (l31New_any a l cap k w hl hlen hk)
  clear hl
  go_enter Try.func5, Try.ntmps5
  go_wp2_with fail
  refine HN.out.mono ?_
  rintro e w2 ⟨rfl, hc, hb⟩
  have HC := Lib.hid hc
  have HB := Lib.hid hb
  clear hc hb HN
  go_wp2_with fail
  refine (byte_cur HC.out).mono ?_
  rintro e w3 ⟨x, hx, rfl, hc3, hg3⟩
  have HC3 := Lib.hid hc3
  have HB3 := Lib.hid (below_curs HB.out hg3 (Nat.le_refl _))
  clear hc3 hg3
  go_wp2_with fail
  refine (byte_cur HC3.out).mono ?_
  rintro e w4 ⟨y, hy, rfl, hc4, hg4⟩
  have HB4 := Lib.hid (below_curs HB3.out hg4 (Nat.le_refl _))
  clear hc4 hg4
  go_wp2_with fail
  go_ret
  exact ⟨x * 256 + y, by omega, by go_num, HB4.out⟩
end Go.Proofs.Ytmgdglghjlggnaa
namespace Go.Proofs.Ytmgdglghjlggnaa
open Go.RowKit
set_option linter.unusedVariables false
/-- a text of one byte -/
def oneC (x : Int) : ByteArray := ⟨#[UInt8.ofNat x.toNat]⟩
theorem convC (w : World) (x : Int) :
    (convert 22 9 (.slice (some ⟨w.heap.size, 0, none⟩) 1 1)).run Try.prog (w.alloc (.cells #[.int .u8 x] 5)) = .ok (.string (oneC x)) (w.alloc (.cells #[.int .u8 x] 5)) :=
  run_convert_bytes_arg (P := Try.prog) (w.alloc (.cells #[.int .u8 x] 5)) 22 5 Try.underlying22 Try.underlying5 w.heap.size 0 1 1 [x] rfl (fun i hi => by
    obtain rfl : i = 0 := by omega
    simp) 9 Try.underlying9
/-- the letter of a number -/
def letterN (x : Nat) : ByteArray := oneC (97 + (x : Int))
end Go.Proofs.Ytmgdglghjlggnaa
namespace Go.Proofs.Ytmgdglghjlggnaa
open Go.RowKit
set_option linter.unusedVariables false
theorem grown_alloc {w w1 : World} {r : Option Nat} (h : w.grownBy w1 r) (o : Obj) : w.grownBy (w1.alloc o) r := by
  have e := Below.heap_alloc w1 o
  exact ⟨h.os, h.tape, h.output, Nat.le_trans h.size (by simp), fun k hk hne => (e k (Nat.lt_of_lt_of_le hk h.size)).trans (h.block k hk hne)⟩
theorem CurOk.alloc {w : World} {B : Nat} {a : Option Addr} {l : List UInt8} {cap : Nat} (h : CurOk w B a l cap) (o : Obj) : CurOk (w.alloc o) B a l cap := h.later ((Below.refl _ _).alloc (Nat.le_refl _) _)
theorem CurOk.lt {w : World} {B : Nat} {a : Option Addr} {l : List UInt8} {cap : Nat} (h : CurOk w B a l cap) : B < w.heap.size := h.at_.lt
set_option maxHeartbeats 1000000 in
theorem l01Below_any (B n : Nat) (a : Option Addr) (l : List UInt8) (cap : Nat) (w : World) (h : CurOk w B a l cap) (hn : 1 ≤ n) (hn2 : n ≤ 256) :
    Calls Try.prog 34 #[.pointer (some ⟨B, 0, none⟩), .int .i64 (n : Nat)] w fun e w' => ∃ x : Nat, x < n ∧ e = .returned (.int .i64 ((x : Nat) : Int)) ∧ CurOk w' B a l cap ∧ w.grownBy w' (some B) := by
  have HB := Lib.hid (byte_cur h)
  clear h
  have h0 : ¬ (n : Int) ≤ 0 := by omega
  have h2 : (n : Int) ≤ 256 := by omega
  have hnz : ((n : Int) == 0) = false := by rw [beq_eq_false_iff_ne]; omega
  have hnz2 : ¬ (n : Int) = 0 := by omega
  go_enter Try.func34, Try.ntmps34
  go_wp2_with fail
  refine HB.out.mono ?_
  rintro e w2 ⟨x, hx, rfl, hc2, hg2⟩
  have HC := Lib.hid hc2
  have HG := Lib.hid hg2
  clear hc2 hg2 HB
  go_wp2_with fail
  go_ret
  exact ⟨x % n, Nat.mod_lt _ (by omega), ret_int (by first | rfl | simp), HC.out, HG.out⟩
theorem StrsIn.grownB {w w' : World} {B : Nat} {a : Option Addr} {l : List ByteArray} (h : StrsIn w a l) (hg : w.grownBy w' (some B)) (hne : ∀ x, a = some x → x.block ≠ B) : StrsIn w' a l := by
  rcases h with h | ⟨b, off, ha, hc⟩
  · exact .inl h
  · refine .inr ⟨b, off, ha, fun i hi => ?_⟩
    rw [World.cell?_of_block (w := w) (hg.block b (World.block_lt_of_cell? w _ (hc i hi)) (fun e => hne _ ha (Option.some.inj e)))]
    exact hc i hi
set_option maxHeartbeats 1000000 in
theorem l01Str_any (B : Nat) (a : Option Addr) (l : List UInt8) (cap : Nat) (ls : List ByteArray) (a2 : Option Addr) (cap2 : Nat) (w : World) (h : CurOk w B a l cap) (hl : StrsIn w a2 ls) (hne : ∀ x, a2 = some x → x.block ≠ B) (h1 : 1 ≤ ls.length) (h2 : ls.length ≤ 256) :
    Calls Try.prog 36 #[.pointer (some ⟨B, 0, none⟩), .slice a2 ls.length cap2] w fun e w' => ∃ i : Nat, i < ls.length ∧ e = .returned (.string (nthS ls i)) ∧ CurOk w' B a l cap ∧ w.grownBy w' (some B) := by
  have HB := Lib.hid (l01Below_any B ls.length a l cap w h h1 h2)
  have HL := Lib.hid hl
  have HN := Lib.hid hne
  clear h hl hne
  go_enter Try.func36, Try.ntmps36
  go_wp2_with fail
  refine HB.out.mono ?_
  rintro e w2 ⟨x, hx, rfl, hc2, hg2⟩
  obtain ⟨b, off, rfl, hb, hcell⟩ := (HL.out.grownB hg2 HN.out).cell hx
  have c1 := hcell x hx
  have HC := Lib.hid hc2
  have HG := Lib.hid hg2
  clear hc2 hg2 HB hcell
  go_wp2_with fail
  go_ret
  exact ⟨x, hx, rfl, HC.out, HG.out⟩
theorem StrsIn.lit (w : World) (ls : List ByteArray) : StrsIn (w.alloc (.cells (strVals ls).toArray 9)) (some ⟨w.heap.size, 0, none⟩) ls := by
  refine .inr ⟨_, _, rfl, fun i hi => ?_⟩
  rw [Nat.zero_add, World.cell?_alloc_new]
  have h2 : i < (strVals ls).length := by simpa [strVals] using hi
  show (strVals ls).toArray[i]? = some _
  rw [List.getElem?_toArray, List.getElem?_eq_getElem h2]
  rfl
/-- a literal row of strings is drawn from -/
theorem strLit_any (B : Nat) (a : Option Addr) (l : List UInt8) (cap : Nat) (ls : List ByteArray) (w : World) (h : CurOk w B a l cap) (h1 : 1 ≤ ls.length) (h2 : ls.length ≤ 256) :
    Calls Try.prog 36 #[.pointer (some ⟨B, 0, none⟩), .slice (some ⟨w.heap.size, 0, none⟩) ls.length ls.length] (w.alloc (.cells (strVals ls).toArray 9)) fun e w' => ∃ i : Nat, i < ls.length ∧ e = .returned (.string (nthS ls i)) ∧ CurOk w' B a l cap ∧ w.grownBy w' (some B) :=
  (l01Str_any B a l cap ls (some ⟨w.heap.size, 0, none⟩) ls.length _ (h.alloc _) (StrsIn.lit w ls) (fun x hx => by
    obtain rfl := Option.some.inj hx
    have := h.lt
    show w.heap.size ≠ B; omega) h1 h2).mono fun _ _ ⟨i, hi, he, hc, hg⟩ => ⟨i, hi, he, hc, grown_tr (grown_alloc ⟨rfl, rfl, rfl, Nat.le_refl _, fun _ _ _ => rfl⟩ _) hg⟩
theorem allB_app (p : UInt8 → Bool) (u v : ByteArray) : allB p (u ++ v) = (allB p u && allB p v) := by simp [allB]
set_option maxRecDepth 20000 in
set_option maxHeartbeats 2000000 in
theorem l02Draw_any (B k most : Nat) (a : Option Addr) (l : List UInt8) (cap : Nat) (w : World) (h : CurOk w B a l cap) (hk1 : 1 ≤ k) (hk : k ≤ 4) (hm : most ≤ 16) :
    Calls Try.prog 35 #[.pointer (some ⟨B, 0, none⟩), .int .i64 (k : Nat), .int .i64 (most : Nat)] w fun e w' => ∃ s : ByteArray, (allB (letB k) s = true ∧ s.size ≤ most) ∧ e = .returned (.string s) ∧ CurOk w' B a l cap ∧ w.grownBy w' (some B) := by
  have kc := convC
  have HN : Hid (Calls Try.prog 34 #[.pointer (some ⟨B, 0, none⟩), .int .i64 ((most : Int) + 1)] w fun e w' => ∃ x : Nat, x < most + 1 ∧ e = .returned (.int .i64 ((x : Nat) : Int)) ∧ CurOk w' B a l cap ∧ w.grownBy w' (some B)) := Lib.hid (l01Below_any B (most + 1) a l cap w h (by omega) (by omega))
  clear h
  go_enter Try.func35, Try.ntmps35
  go_wp2_with fail
  refine HN.out.mono ?_
  rintro e w3 ⟨x, hx, rfl, hc3, hg3⟩
  have HC3 := Lib.hid hc3
  have HG3 := Lib.hid hg3
  clear hc3 hg3 HN
  go_wp2_with fail
  go_loopw [7, 8] (fun u v wr => ∃ (j : Nat) (s : ByteArray), v = .int .i64 ((j : Nat) : Int) ∧ u = .string s ∧ Hid (allB (letB k) s = true) ∧ s.size + j ≤ most ∧ CurOk wr B a l cap ∧ w.grownBy wr (some B)) (fun _ v _ => (intOf v).toNat)
  case atStart => exact ⟨x, ⟨#[]⟩, rfl, rfl, Lib.hid rfl, by show 0 + x ≤ most; omega, HC3.out, HG3.out⟩
  case round =>
    clear HC3 HG3
    obtain ⟨j, s, rfl, rfl, hs, hsz, hc, hg⟩ := hrel
    have HC := Lib.hid hc
    have HG := Lib.hid hg
    clear hc hg
    by_cases hj : 0 < j
    · have HS := Lib.hid (l01Below_any B k a l cap wr HC.out hk1 (by omega))
      have hji : (0 : Int) < (j : Int) := by omega
      go_wp2_with fail
      refine HS.out.mono ?_
      rintro e w5 ⟨i, hi, rfl, hc5, hg5⟩
      have hu : IntKind.u8.wrap (97 + (i : Int)) = 97 + (i : Int) := by simp [IntKind.wrap, IntKind.signed, IntKind.bits]; omega
      have HC5 := Lib.hid (hc5.alloc (.cells #[.int .u8 (97 + (i : Int))] 5))
      have HG5 := Lib.hid (grown_alloc (grown_tr HG.out hg5) (.cells #[.int .u8 (97 + (i : Int))] 5))
      have hlb : allB (letB k) (letterN i) = true := by
        unfold allB
        have : (letterN i).data.toList = [UInt8.ofNat (97 + i)] := by
          show [UInt8.ofNat ((97 + (i : Int)).toNat)] = _
          rw [show (97 + (i : Int)).toNat = 97 + i by omega]
        rw [this]
        show ([UInt8.ofNat (97 + i)].all (letB k)) = true
        have hc : (UInt8.ofNat (97 + i)).toNat = 97 + i := by rw [UInt8.toNat_ofNat']; omega
        simp only [List.all_cons, List.all_nil, Bool.and_true, letB, inB, hc]
        simp; omega
      have HA : Hid (allB (letB k) (s ++ oneC (97 + (i : Int))) = true) := Lib.hid (by
        rw [allB_app, hs.out]
        exact hlb)
      have hsum : ¬ 9223372036854775807 < s.size + (oneC (97 + (i : Int))).size := by
        show ¬ 9223372036854775807 < s.size + 1; omega
      have hss : (s ++ oneC (97 + (i : Int))).size + (j - 1) ≤ most := by
        rw [ByteArray.size_append]
        show s.size + 1 + (j - 1) ≤ most; omega
      have HSS := Lib.hid hss
      clear hc5 hg5 HS hss hlb
      go_wp2_with fail
      go_roundw
      case rel => exact ⟨j - 1, _, by congr 1; omega, rfl, HA, HSS.out, HC5.out, HG5.out⟩
      case measure => simp [intOf]; omega
    · have hji : ¬ (0 : Int) < (j : Int) := by omega
      go_wp2_with fail
      go_ret
      exact ⟨s, ⟨hs.out, by omega⟩, rfl, HC.out, HG.out⟩
end Go.Proofs.Ytmgdglghjlggnaa
