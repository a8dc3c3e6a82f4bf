/-
  The program's order of words (compareWords).
-/
import Derived.Test.YtdhaebbfiaddnaaGreatDoorGts03
import Derived.Maps.AppendAt
import Derived.Laws.OwnMore
import Derived.Test.YtdhaebbfiaddnaaGreatDoorGts01
import Derived.ProofKit
import Derived.OpenShut
import Derived.Lib.SmallJoins
import Derived.SliceStrings
import Derived.Test.YtdhaebbfiaddnaaGreatDoorGts02
import Derived.Sort.OwnSorted
namespace Go.Proofs.YtdhaebbfiaddnaaGreatDoor
open Go.RowKit
set_option linter.unusedVariables false
/-- a slice from which elements are taken -/
def Src (w : World) (x : Value) (m : Nat) (news : List Value) : Prop :=
  (x = .slice none 0 0 ∧ m = 0 ∧ news = []) ∨ ∃ ad c, x = .slice (some ad) m c ∧ ∀ j u, news[j]? = some u → w.cell? (ad.add j) = some u
theorem add_off (b o j : Nat) : (⟨b, o, none⟩ : Addr).add j = ⟨b, o + j, none⟩ := by unfold Addr.add; split <;> simp_all
theorem Src.of_cells {w : World} {ad : Addr} {m c : Nat} {news : List Value} (h : CellsIn w (some ad) news) : Src w (.slice (some ad) m c) m news := by
  refine .inr ⟨ad, c, rfl, fun j u hu => ?_⟩
  rcases h with h | ⟨b, off, ha, hc⟩
  · subst h; simp at hu
  · obtain rfl := Option.some.inj ha
    obtain ⟨hj, rfl⟩ := List.getElem?_eq_some_iff.1 hu
    rw [add_off]
    exact hc j hj
theorem Src.of_owns {w : World} {base : Nat} {T : TypeId} {size : Nat} {x : Value} {m : Nat} {news : List Value} (h : w.ownsRow base T size x m news) : Src w x m news := by
  rcases h.2 with ⟨hv, h0⟩ | ⟨g, cap, cur, hv, hb, hg, hn, hc, hs, ht⟩
  · refine .inl ⟨hv, h0, List.eq_nil_of_length_eq_zero (by rw [h.1, h0, Nat.zero_mul])⟩
  · subst hv
    refine .inr ⟨_, _, rfl, fun j u hu => ?_⟩
    obtain ⟨hj, rfl⟩ := List.getElem?_eq_some_iff.1 hu
    rw [add_off, Nat.zero_add, h.cellAt j (by have := h.1; omega)]
    exact hu
theorem Src.lit {w : World} {T : TypeId} {c m : Nat} (news : List Value) : Src (w.alloc (.cells news.toArray T)) (.slice (some ⟨w.heap.size, 0, none⟩) m c) m news := by
  refine .inr ⟨_, _, rfl, fun j u hu => ?_⟩
  rw [add_off, Nat.zero_add, World.cell?_alloc_new]
  simpa using hu
theorem Src.later {w w' : World} {x : Value} {m : Nat} {news : List Value} (h : Src w x m news) (hb : Below w.heap.size w w') : Src w' x m news := by
  rcases h with h | ⟨ad, c, hx, hc⟩
  · exact .inl h
  · refine .inr ⟨ad, c, hx, fun j u hu => ?_⟩
    have h1 := hc j u hu
    rw [hb.cell (World.block_lt_of_cell? w _ h1)]
    exact h1
section
variable {P : Program}
theorem run_appM {tsl ty T : TypeId} {z : Value} {size bytes : Nat} (ht : P.underlying tsl = some (.slice T)) (hinfo : (P.info? T).map (fun i => (i.zero, i.size, i.bytes)) = some (some z, size, bytes))
    (hzs : z.cells.size = size) (hpos : 0 < size) {w wr : World} {v x : Value} {n m : Nat} {xs news : List Value} (hb : Bld T size w wr v n xs) (hx : Src wr x m news)
    (hn : news.length = m * size) (h1 : ∀ u ∈ news, u.oneCell' = true) (h63 : n + m ≤ maxLen) (hbytes : (n + m) * bytes ≤ 140737488355328) :
    ∃ v' w', (Builtin.append_ #[tsl, tsl] ty #[v, x]).run P wr = .ok v' w' ∧ Bld T size w w' v' (n + m) (xs ++ news) ∧ wr.grownBy w' v.ownBlock ∧ (v'.ownBlock = v.ownBlock ∨ v'.ownBlock = some wr.heap.size) := by
  obtain ⟨i0, hi, hz0, hz1, hz2⟩ := info_parts hinfo
  rcases hx with ⟨rfl, rfl, rfl⟩ | ⟨ad, c, rfl, hc⟩
  · refine ⟨v, wr, run_append_owned_none wr w.heap.size tsl ty T i0 size ht hi v n xs hb.1, by simpa using hb, ⟨rfl, rfl, rfl, Nat.le_refl _, fun _ _ _ => rfl⟩, .inl rfl⟩
  · obtain ⟨v', w', hr, h2, h3, h4, h5⟩ := run_append_own_at (P := P) wr w.heap.size tsl ty T i0 z size bytes ht hi hz0 hz1 hz2 hzs hpos v n xs hb.1 ad m c news hn hc h1 h63 hbytes hb.2.size
    exact ⟨v', w', hr, ⟨h2, hb.2.grown h3 hb.2.size (owns_block hb.1)⟩, h3, h5⟩
/-- append of m elements, at a step of a region that draws its order -/
theorem step_appM {ops : Array Oper} {o : Oper} {a : Act} {K : Act → World → Prop} {Q : Exit → Act → World → Prop} {E : Prop} {T tsl : TypeId} {z : Value} {size bytes : Nat} (hg : o.guard = none) (s x : Operand)
    (ho : o.op = .call { callee := .builtin .append, args := #[s, x], argTypes := #[tsl, tsl] }) (ht : P.underlying tsl = some (.slice T)) (hinfo : (P.info? T).map (fun i => (i.zero, i.size, i.bytes)) = some (some z, size, bytes))
    (hzs : z.cells.size = size) (hpos : 0 < size) {w wr : World} {v u : Value} {n m : Nat} {xs news : List Value} (hs : a.eval s = v) (hb : Bld T size w wr v n xs) (hx : a.eval x = u) (hsrc : Src wr u m news)
    (hn : news.length = m * size) (h1 : ∀ u ∈ news, u.oneCell' = true) (h63 : n + m ≤ maxLen) (hbytes : (n + m) * bytes ≤ 140737488355328)
    (hK : ∀ v' w', Bld T size w w' v' (n + m) (xs ++ news) → wr.grownBy w' v.ownBlock → (v'.ownBlock = v.ownBlock ∨ v'.ownBlock = some wr.heap.size) → K (a.put o.dst v') w') : if Region.wanted o (yielded ops a.tmps) = true then Oper.wp P o a wr K Q else E := by
  have hw : Region.wanted o (yielded ops a.tmps) = true := by simp [Region.wanted, hg]
  rw [if_pos hw]
  obtain ⟨v', w', hr, h2, h3, h4⟩ := run_appM (ty := o.type) ht hinfo hzs hpos hb hsrc hn h1 h63 hbytes
  unfold Oper.wp execOp
  simp only [ho, resolve, invoke, builtin, Sem.run_bind, Sem.run_pure, Result.andThen_ok, List.map_toArray, List.map_cons, List.map_nil, hs, hx, hr]
  exact hK _ _ h2 h3 h4
/-- the same at a plain region's list -/
theorem wpList_appM {ops : Array Oper} {rest : List Oper} {o : Oper} {a : Act} {Q : Exit → Act → World → Prop} {T tsl : TypeId} {z : Value} {size bytes : Nat} (hg : o.guard = none) (s x : Operand)
    (ho : o.op = .call { callee := .builtin .append, args := #[s, x], argTypes := #[tsl, tsl] }) (ht : P.underlying tsl = some (.slice T)) (hinfo : (P.info? T).map (fun i => (i.zero, i.size, i.bytes)) = some (some z, size, bytes))
    (hzs : z.cells.size = size) (hpos : 0 < size) {w wr : World} {v u : Value} {n m : Nat} {xs news : List Value} (hs : a.eval s = v) (hb : Bld T size w wr v n xs) (hx : a.eval x = u) (hsrc : Src wr u m news)
    (hn : news.length = m * size) (h1 : ∀ u ∈ news, u.oneCell' = true) (h63 : n + m ≤ maxLen) (hbytes : (n + m) * bytes ≤ 140737488355328)
    (hK : ∀ v' w', Bld T size w w' v' (n + m) (xs ++ news) → wr.grownBy w' v.ownBlock → (v'.ownBlock = v.ownBlock ∨ v'.ownBlock = some wr.heap.size) → wpList P ops Q rest (a.put o.dst v') w') : wpList P ops Q (o :: rest) a wr := by
  refine wpList_plain hg fun K hK' => ?_
  obtain ⟨v', w', hr, h2, h3, h4⟩ := run_appM (ty := o.type) ht hinfo hzs hpos hb hsrc hn h1 h63 hbytes
  unfold Oper.wp execOp
  simp only [ho, resolve, invoke, builtin, Sem.run_bind, Sem.run_pure, Result.andThen_ok, List.map_toArray, List.map_cons, List.map_nil, hs, hx, hr]
  exact hK' _ _ (hK _ _ h2 h3 h4)
end
end Go.Proofs.YtdhaebbfiaddnaaGreatDoor
namespace Go.Proofs.YtdhaebbfiaddnaaGreatDoor
set_option linter.unusedVariables false
section
variable {α : Type} (F : List α → Prop) (N : List α → List α → Prop)
/-- behind the sets out (the last one first) the set S comes up -/
def comesB : List (List α) → List α → Prop
  | [], S => F S
  | X :: out, S => comesB out X ∧ N X S
/-- the run is over: the set that would come is empty or was there -/
def endsB (out : List (List α)) (S : List α) : Prop := comesB F N out S ∧ (S = [] ∨ S ∈ out)
/-- every set of the run came up where it was neither empty nor there before -/
def freshB : List (List α) → Prop
  | [] => True
  | X :: out => freshB out ∧ comesB F N out X ∧ X ≠ [] ∧ ¬ X ∈ out
variable {F N}
theorem comes_uniq (hF : ∀ S S', F S → F S' → S = S') (hN : ∀ X S S', N X S → N X S' → S = S') : ∀ {out : List (List α)} {S S' : List α}, comesB F N out S → comesB F N out S' → S = S'
  | [], S, S', h, h' => hF S S' h h'
  | X :: out, S, S', h, h' => hN X S S' h.2 h'.2
/-- of two runs one is the beginning of the other -/
theorem fresh_pre (hF : ∀ S S', F S → F S' → S = S') (hN : ∀ X S S', N X S → N X S' → S = S') : ∀ {out out' : List (List α)}, freshB F N out → freshB F N out' → out.length ≤ out'.length → ∃ t, out' = t ++ out
  | out, [], h, h', hl => by
    have : out = [] := List.eq_nil_of_length_eq_zero (by simpa using hl)
    exact ⟨[], by rw [this]; rfl⟩
  | out, X :: out', h, h', hl => by
    rcases Nat.lt_or_ge out'.length out.length with hlt | hge
    · cases out with
      | nil => simp at hlt
      | cons Y out =>
        have hlen : out.length = out'.length := by simp at hl hlt; omega
        obtain ⟨t, ht⟩ := fresh_pre hF hN h.1 h'.1 (Nat.le_of_eq hlen)
        have ht0 : t = [] := by
          have := congrArg List.length ht
          rw [List.length_append] at this
          exact List.eq_nil_of_length_eq_zero (by omega)
        subst ht0
        rw [List.nil_append] at ht
        subst ht
        have := comes_uniq hF hN h.2.1 h'.2.1
        exact ⟨[], by rw [this]; rfl⟩
    · obtain ⟨t, ht⟩ := fresh_pre hF hN h h'.1 hge
      exact ⟨X :: t, by rw [ht]; rfl⟩
/-- a run that is over is one -/
theorem ends_uniq (hF : ∀ S S', F S → F S' → S = S') (hN : ∀ X S S', N X S → N X S' → S = S') {out out' : List (List α)} {S S' : List α} (h : freshB F N out) (h' : freshB F N out') (he : endsB F N out S) (he' : endsB F N out' S') : out = out' := by
  have key : ∀ {o o' : List (List α)} {R R' : List α}, freshB F N o → freshB F N o' → endsB F N o R → o.length < o'.length → False := by
    intro o o' R R' h1 h2 h3 hl
    obtain ⟨t, ht⟩ := fresh_pre hF hN h1 h2 (Nat.le_of_lt hl)
    have htl : 0 < t.length := by
      have := congrArg List.length ht
      rw [List.length_append] at this; omega
    -- the set that comes behind o stands in o'
    have hsub : ∀ {t : List (List α)}, 0 < t.length → freshB F N (t ++ o) → ∃ X, comesB F N o X ∧ X ≠ [] ∧ ¬ X ∈ o := by
      intro t
      induction t with
      | nil => intro h; simp at h
      | cons Y t ih =>
        intro _ hf
        rcases Nat.eq_zero_or_pos t.length with h0 | h0
        · have : t = [] := List.eq_nil_of_length_eq_zero h0
          subst this
          exact ⟨Y, hf.2.1, hf.2.2.1, hf.2.2.2⟩
        · exact ih h0 hf.1
    obtain ⟨X, hx, hx1, hx2⟩ := hsub htl (by rw [← ht]; exact h2)
    have := comes_uniq hF hN hx h3.1
    subst this
    rcases h3.2 with e | e
    · exact hx1 e
    · exact hx2 e
  rcases Nat.lt_trichotomy out.length out'.length with hl | hl | hl
  · exact (key (R' := S') h h' he hl).elim
  · obtain ⟨t, ht⟩ := fresh_pre hF hN h h' (Nat.le_of_eq hl)
    have : t = [] := by
      have := congrArg List.length ht
      rw [List.length_append] at this
      exact List.eq_nil_of_length_eq_zero (by omega)
    subst this
    exact ht.symm
  · exact (key (R' := S) h' h he' hl).elim
end
end Go.Proofs.YtdhaebbfiaddnaaGreatDoor
namespace Go.Proofs.YtdhaebbfiaddnaaGreatDoor
open Go.RowKit
set_option linter.unusedVariables false
/-- an answer that tells whether P -/
def RetP (P : Prop) (w : World) (e : Ending) (w' : World) : Prop := ∃ b : Bool, (b = true ↔ P) ∧ e = .returned (.bool b) ∧ Below w.heap.size w w'
theorem RetP.yes {P : Prop} {w w' : World} (h : P) (hb : Below w.heap.size w w') : RetP P w (.returned (.bool true)) w' := ⟨true, ⟨fun _ => h, fun _ => rfl⟩, rfl, hb⟩
theorem RetP.no {P : Prop} {w w' : World} (h : ¬ P) (hb : Below w.heap.size w w') : RetP P w (.returned (.bool false)) w' := ⟨false, ⟨fun h => (by cases h), fun h2 => absurd h2 h⟩, rfl, hb⟩
theorem bytes_eq {a b : ByteArray} : (a.toList == b.toList) = true ↔ a = b := by
  rw [beq_iff_eq, ByteArray.toList_eq, ByteArray.toList_eq]
  constructor
  · intro h
    obtain ⟨⟨x⟩⟩ := a
    obtain ⟨⟨y⟩⟩ := b
    have : x = y := h
    rw [this]
  · intro h; rw [h]
end Go.Proofs.YtdhaebbfiaddnaaGreatDoor
namespace Go.Proofs.YtdhaebbfiaddnaaGreatDoor
open Go.RowKit
set_option linter.unusedVariables false
theorem Tryz.infoStr : (Tryz.prog.info? 9).map (fun i => (i.zero, i.size, i.bytes)) = some (some (.string ⟨#[]⟩), 1, 16) := by kernel_rfl
theorem nil_app (x : ByteArray) : (⟨#[]⟩ : ByteArray) ++ x = x := by ext1; simp
def strVals (l : List ByteArray) : List Value := l.map Value.string
theorem strVals_len (l : List ByteArray) : (strVals l).length = l.length := by simp [strVals]
theorem owns_strs {w : World} {base : Nat} {T : TypeId} {size : Nat} {a : Option Addr} {n m cap : Nat} {l : List ByteArray} (h : w.ownsRow base T size (.slice a m cap) n (strVals l)) : StrsIn w a l := owns_cells h
theorem owns_capS {w : World} {base : Nat} {T : TypeId} {size : Nat} {a : Option Addr} {n m cap : Nat} {xs : List Value} (h : w.ownsRow base T size (.slice a n cap) m xs) : n ≤ cap ∧ cap ≤ maxLen := by
  rcases h.2 with ⟨hv, h0⟩ | ⟨g, cap', cur, hv, hb, hg, hn, hc, r⟩
  · simp only [Value.slice.injEq] at hv
    obtain ⟨_, rfl, rfl⟩ := hv
    exact ⟨Nat.le_refl _, Nat.zero_le _⟩
  · simp only [Value.slice.injEq] at hv
    obtain ⟨_, rfl, rfl⟩ := hv
    exact ⟨hn, hc⟩
set_option maxHeartbeats 400000 in
theorem implJoin_any (l : List ByteArray) (sep : ByteArray) (a : Option Addr) (cap : Nat) (w : World) (hl : StrsIn w a l) (hs0 : 0 < sep.size) (hs1 : sep.size ≤ 1000) (hlen : l.length ≤ 2 ^ 40) (hcap : l.length ≤ cap ∧ cap ≤ maxLen)
    (hsz : (joinF l sep).size ≤ 2 ^ 46) :
    Calls Tryz.prog 44 #[.slice a l.length cap, .string sep] w fun e w' => e = .returned (.string (joinF l sep)) ∧ Below w.heap.size w w' := by
  have HJ := Lib.hid (join_any l sep a cap w hl hs0 hs1 hlen hcap hsz)
  clear hl hsz
  go_enter Tryz.func44, Tryz.ntmps44
  go_wp2_with fail
  refine HJ.out.mono ?_
  rintro e w2 ⟨rfl, hb2⟩
  go_wp2_with fail
  go_ret
  exact ⟨rfl, hb2⟩
/-- a full stop for the empty word -/
def dotB (s : ByteArray) : ByteArray := if s.toList.isEmpty = true then ⟨#[46]⟩ else s
theorem dotB_size (s : ByteArray) : (dotB s).size ≤ s.size + 1 := by
  unfold dotB
  split
  · show 1 ≤ _; omega
  · omega
set_option maxHeartbeats 400000 in
theorem l03Side_any (s : ByteArray) (w : World) :
    Calls Tryz.prog 149 #[.string s] w fun e w' => e = .returned (.string (dotB s)) ∧ w = w' := by
  cases h : s.toList.isEmpty
  · have F : Hid (dotB s = s) := Lib.hid (by simp [dotB, h])
    go_enter Tryz.func149, Tryz.ntmps149
    go_wp2_with fail
    go_ret
    exact ⟨ret_str F.out.symm, rfl⟩
  · have F : Hid (dotB s = ⟨#[46]⟩) := Lib.hid (by simp [dotB, h])
    go_enter Tryz.func149, Tryz.ntmps149
    go_wp2_with fail
    go_ret
    exact ⟨ret_str F.out.symm, rfl⟩
set_option maxHeartbeats 400000 in
theorem dotted_any (s : ByteArray) (w : World) :
    Calls Tryz.prog 50 #[.string s] w fun e w' => e = .returned (.string (dotB s)) ∧ w = w' := by
  cases h : s.toList.isEmpty
  · have F : Hid (dotB s = s) := Lib.hid (by simp [dotB, h])
    go_enter Tryz.func50, Tryz.ntmps50
    go_wp2_with fail
    go_ret
    exact ⟨ret_str F.out.symm, rfl⟩
  · have F : Hid (dotB s = ⟨#[46]⟩) := Lib.hid (by simp [dotB, h])
    go_enter Tryz.func50, Tryz.ntmps50
    go_wp2_with fail
    go_ret
    exact ⟨ret_str F.out.symm, rfl⟩
end Go.Proofs.YtdhaebbfiaddnaaGreatDoor
namespace Go.Proofs.YtdhaebbfiaddnaaGreatDoor
open Go.RowKit
set_option linter.unusedVariables false
/-- the sizes of all -/
theorem sumTo_eq (l : List ByteArray) : ∀ j, j ≤ l.length → sumTo l j = ((l.take j).map ByteArray.size).sum
  | 0, _ => by simp [sumTo]
  | j + 1, h => by
    rw [sumTo, sumTo_eq l j (by omega), List.take_succ_eq_append_getElem (by omega), nthS_lt (by omega), List.map_append, List.sum_append]
    simp only [List.map_cons, List.map_nil, List.sum_cons, List.sum_nil, Nat.add_zero]
def strSum (l : List ByteArray) : Nat := (l.map ByteArray.size).sum
theorem joinF_size (l : List ByteArray) (sep : ByteArray) : (joinF l sep).size ≤ strSum l + sep.size * l.length := by
  unfold joinF
  cases h : l.length with
  | zero => exact Nat.zero_le _
  | succ n =>
    rw [joinTo_size, sumTo_eq l _ (by omega), List.take_of_length_le (by omega), Nat.mul_succ]
    unfold strSum
    omega
theorem strSum_dot (l : List ByteArray) : strSum (l.map dotB) ≤ strSum l + l.length := by
  unfold strSum
  induction l with
  | nil => simp
  | cons a l ih =>
    have := dotB_size a
    simp only [List.map_cons, List.sum_cons, List.length_cons] at *
    omega
/-- the first j of them with full stops -/
def dotTo (l : List ByteArray) (j : Nat) : List ByteArray := (l.take j).map dotB
theorem dotTo_len {l : List ByteArray} {j : Nat} (h : j ≤ l.length) : (dotTo l j).length = j := by simp [dotTo]; omega
theorem dotTo_succ {l : List ByteArray} {j : Nat} (h : j < l.length) : dotTo l (j + 1) = dotTo l j ++ [dotB (nthS l j)] := by
  unfold dotTo; rw [List.take_succ_eq_append_getElem h, nthS_lt h, List.map_append]; rfl
theorem dotTo_all (l : List ByteArray) : dotTo l l.length = l.map dotB := by unfold dotTo; rw [List.take_of_length_le (Nat.le_refl _)]
/-- FormatWords as a function of plain data -/
def fmtWords (l : List ByteArray) : ByteArray := if l.length = 0 then ⟨#[45]⟩ else joinF (l.map dotB) ⟨#[44]⟩
theorem fmtWords_zero {l : List ByteArray} (h : l.length = 0) : fmtWords l = ⟨#[45]⟩ := by simp [fmtWords, h]
theorem fmtWords_pos {l : List ByteArray} (h : 0 < l.length) : fmtWords l = joinF (dotTo l l.length) ⟨#[44]⟩ := by rw [dotTo_all]; simp [fmtWords, show ¬ l.length = 0 by omega]
theorem fmtWords_size {l : List ByteArray} (h : l.length ≤ 2 ^ 40) (h2 : strSum l ≤ 2 ^ 40) : (joinF (dotTo l l.length) ⟨#[44]⟩).size ≤ 2 ^ 46 := by
  have h1 := joinF_size (dotTo l l.length) ⟨#[44]⟩
  have h3 := strSum_dot l
  rw [dotTo_len (Nat.le_refl _)] at h1
  rw [dotTo_all] at h1 ⊢
  have : (ByteArray.mk #[44]).size = 1 := rfl
  rw [this] at h1
  omega
set_option maxHeartbeats 1000000 in
theorem implFormatWords_any (l : List ByteArray) (a : Option Addr) (cap : Nat) (w : World) (hl : StrsIn w a l) (hlen : l.length ≤ 2 ^ 40) (hsz : strSum l ≤ 2 ^ 40) :
    Calls Tryz.prog 21 #[.slice a l.length cap] w fun e w' => e = .returned (.string (fmtWords l)) ∧ Below w.heap.size w w' := by
  have HL := Lib.hid hl
  have HZ := Lib.hid (fmtWords_size hlen hsz)
  clear hl
  rcases Nat.eq_zero_or_pos l.length with h0 | h0
  · have F := Lib.hid (fmtWords_zero h0)
    rw [h0]
    go_enter Tryz.func21, Tryz.ntmps21
    go_wp2_with fail
    go_ret
    exact ⟨ret_str F.out.symm, Below.refl _ _⟩
  have F := Lib.hid (fmtWords_pos h0)
  have HS := Lib.hid (Bld.nil 9 1 (Below.refl w.heap.size w))
  have hn0 : ((l.length : Int) == 0) = false := by rw [beq_eq_false_iff_ne]; omega
  go_enter Tryz.func21, Tryz.ntmps21
  go_wp2_with fail
  go_loopw [3, 11] (fun v i wr => ∃ j : Nat, j ≤ l.length ∧ i = .int .i64 j ∧ Bld 9 1 w wr v j (strVals (dotTo l j))) (fun _ i _ => l.length - (intOf i).toNat)
  case atStart => exact ⟨0, Nat.zero_le _, rfl, HS.out⟩
  case round =>
    clear HS
    obtain ⟨j, hj, rfl, hbd⟩ := hrel
    obtain ⟨a3, c3, rfl⟩ := owns_form hbd.1
    have HB := Lib.hid hbd
    have hbw := hbd.2
    clear hbd
    by_cases hlt : j < l.length
    · obtain ⟨b, off, rfl, hb, hc⟩ := (HL.out.later hbw).cell hlt
      have c1 := hc j hlt
      have F1 := Lib.hid (dotTo_succ hlt)
      clear hc
      go_wp2_with (first | (go_at_call 50; refine (dotted_any _ _).mono ?_; rintro e w' ⟨rfl, rfl⟩) | (at_builtin; refine wpList_app1 rfl _ _ rfl Tryz.underlying52 Tryz.infoStr rfl (by decide) rfl HB.out rfl rfl ?c1 ?c2 ?c3 ?c4))
      case c1 => simp [Value.oneCell']
      case c2 => unfold maxLen; omega
      case c3 => omega
      intro v2 w4 hb2
      have F2 : Hid (Bld 9 1 w w4 v2 (j + 1) (strVals (dotTo l (j + 1)))) := by
        rw [F1.out]; unfold strVals at *; rw [List.map_append]; exact Lib.hid hb2
      clear hb2
      go_wp2_with fail
      go_roundw
      case rel => exact ⟨j + 1, by omega, by go_num, F2.out⟩
      case measure => simp [intOf]; omega
    · obtain rfl : j = l.length := by omega
      have hdl := dotTo_len (l := l) (Nat.le_refl _)
      go_wp2_with fail
      have hJ := implJoin_any (dotTo l l.length) ⟨#[44]⟩ a3 c3 wr (owns_strs HB.out.1) (by decide) (by decide) (by omega) (by rw [hdl]; exact owns_capS HB.out.1) HZ.out
      rw [hdl] at hJ
      refine hJ.mono ?_
      rintro e w5 ⟨rfl, hb5⟩
      replace hbw := Below.now hbw hb5
      clear hb5 hJ
      go_wp2_with fail
      go_ret
      exact ⟨ret_str F.out.symm, hbw⟩
end Go.Proofs.YtdhaebbfiaddnaaGreatDoor
namespace Go.Proofs.YtdhaebbfiaddnaaGreatDoor
open Go.ChangeShapes Go.WideShapes Go.ChangeAt Go.RowKit Go.Joins Go.Deep
set_option linter.unusedVariables false
/-- all arguments read as they did, if below the old heap's size nothing has turned -/
theorem trodAll_below {H : Type} {enc : TypeId × Value → H} {P : Program} (hl : laidOutB P = true) {W W' : World} (hb : Below W.heap.size W W') :
    ∀ (ts : List TypeId) (vs : List Value) (ds : List (DataW H)) (ps : List MemPlace), (∀ t ∈ ts, P.readableRec t = true ∧ t < P.types.size) → (∀ x ∈ ps, x.block < W.heap.size) →
      DataW.TrodAll enc P W 0 (fun _ => true) true ts vs ds ps → DataW.TrodAll enc P W' 0 (fun b => decide (b < W.heap.size)) true ts vs ds ps
  | [], vs, ds, ps, _, _, h => by
    cases vs <;> cases ds <;> simp_all [DataW.TrodAll]
  | t :: ts, vs, ds, ps, hr, hp, h => by
    cases vs with
    | nil => cases ds <;> simp [DataW.TrodAll] at h
    | cons v vs =>
      cases ds with
      | nil => simp [DataW.TrodAll] at h
      | cons d ds =>
        obtain ⟨p, p', h1, h2, rfl⟩ := h
        exact ⟨p, p', Below.trod hl (hr t (by simp)).1 (hr t (by simp)).2 h1 hb (fun x hx => hp x (by simp [hx])),
          trodAll_below hl hb ts vs ds p' (fun t' ht' => hr t' (by simp [ht'])) (fun x hx => hp x (by simp [hx])) h2, rfl⟩
/-- what a law's row asks behind the walk -/
theorem law_post {H : Type} {enc : TypeId × Value → H} {P : Program} {f : Func} {s : ChangeSpec} {W W' : World} {args : Array Value} {ds : List (DataW H)} {before : List MemPlace} {tb : TypeId}
    (hl : laidOutB P = true) (hr : ∀ t ∈ f.params.toList, P.readableRec t = true ∧ t < P.types.size) (hv : s.vars = [])
    (hW : DataW.Whole enc P f.params.toList s.vars false W args.toList ds [] before) (hft : f.resultTypes = #[tb]) (htb : P.underlying tb = some .bool)
    (hfn : s.fn H (ds ++ []) = { results := [.lit (.bool true)], args := ds }) (hb : Below W.heap.size W W') :
    s.post enc P f false true false false W args (.bool true) W' := by
  have hW' := hW
  obtain ⟨p, q, hA0, hV, hpq, hfz, hnd⟩ := hW'
  rw [hv] at hV
  obtain ⟨_, rfl⟩ := trodVars_none hV
  simp only [List.append_nil] at hpq
  subst hpq
  have hlt : ∀ x ∈ before, x.block < W.heap.size := fun x hx => hW.lt x hx
  refine ⟨ds, [], before, [], before, [], hW, ?_, ?_, ?_, ?_, fun h => by cases h⟩
  · rw [hfn, hft]
    exact trodAll_cons_mk (shut_bool htb _) trodAll_mk0
  · rw [hfn]
    exact trodAll_below hl hb _ _ _ _ hr hlt hA0
  · rw [hfn, hv]
    rfl
  · exact hb.frame _
/-- a slice of integers that came in -/
theorem open_intsIn {H : Type} {enc : TypeId × Value → H} {P : Program} {w : World} {t e : TypeId} {fuel : Nat} {cs : List Value} {x : DataW H × List MemPlace} (ht : P.underlying t = some (.slice e)) (he : P.underlying e = some (.int .i64)) (hc : P.cellsOf e = 1)
    (h : DataW.trod enc P w 0 (fun _ => true) true fuel t cs = some x) : ∃ a l cap, cs = [.slice a l.length cap] ∧ IntsIn w a l ∧ l.length ≤ 9223372036854775807 := by
  rcases open_ints ht he hc h with ⟨rfl, _⟩ | ⟨a, len, cap, zs, rfl, _, hl, hm, hz, _, hcell, _⟩
  · exact ⟨none, [], 0, rfl, .inl rfl, by simp⟩
  · simp only [if_true] at hz
    have hlen : (zs.take len).length = len := by rw [List.length_take]; omega
    refine ⟨some a, zs.take len, cap, by rw [hlen], ?_, by rw [hlen]; unfold maxLen at hm; omega⟩
    by_cases h0 : len = 0
    · left; subst h0; simp
    · obtain ⟨b, off, rfl, hc'⟩ := ints_at hcell (by omega)
      right
      refine ⟨b, off, rfl, fun i hi => ?_⟩
      rw [List.length_map, hlen] at hi
      rw [hc' i (by omega)]
      simp [List.getElem_take, List.getD_eq_getElem?_getD, show i < zs.length by omega]
/-- a table that came in -/
theorem open_tableIn {H : Type} {enc : TypeId × Value → H} {P : Program} {w : World} {r : Reach} {b0 : Nat} {t ti : TypeId} {f0 f1 : Field} {v : Value} {d : DataW H} {p : List MemPlace} (hs : P.underlying t = some (.struct #[f0, f1])) (hone : oneCellFields P #[f0, f1] = true) (hC : P.cellsOf t = 2)
    (h0 : P.underlying f0.type = some (.int .i64)) (h1 : P.underlying f1.type = some (.slice ti)) (hi : P.underlying ti = some (.int .i64)) (hci : P.cellsOf ti = 1)
    (hv : Value.okWide P w r b0 t v) (h : DataW.Trod enc P w 0 (fun _ => true) true t v d p) : ∃ n a l cap, v = .agg #[.int .i64 n, .slice a l.length cap] ∧ IntsIn w a l ∧ l.length ≤ 9223372036854775807 := by
  obtain ⟨c0, c1, y0, y1, m, rfl, _, _, hy0, hy1⟩ := open_agg2 hs hone hC hv h
  obtain ⟨n, e0, _, _⟩ := DataW.trod_int h0 hy0
  obtain ⟨a, l, cap, e1, hl, hn⟩ := open_intsIn h1 hi hci hy1
  simp only [List.cons.injEq, and_true] at e0 e1
  subst e0 e1
  exact ⟨n, a, l, cap, rfl, hl, hn⟩
end Go.Proofs.YtdhaebbfiaddnaaGreatDoor
namespace Go.Proofs.YtdhaebbfiaddnaaGreatDoor
open Go.RowKit Go.ChangeShapes Go.WideShapes Go.ChangeAt
set_option linter.unusedVariables false
theorem strSum_take (l : List ByteArray) {j : Nat} (h : j ≤ l.length) : sumTo l j ≤ strSum l := by
  have := sumTo_mono l h
  rw [sumTo_eq l l.length (Nat.le_refl _), List.take_of_length_le (Nat.le_refl _)] at this
  exact this
theorem strSum_all (l : List ByteArray) : sumTo l l.length = strSum l := by
  rw [sumTo_eq l l.length (Nat.le_refl _), List.take_of_length_le (Nat.le_refl _)]; rfl
/-- what szStringS hands back -/
def szF (left : Int) (l : List ByteArray) : Int := if left < (l.length : Int) + strSum l then -1 else left - l.length - strSum l
theorem szF_big {left : Int} {l : List ByteArray} (h : left < (l.length : Int) + strSum l) : szF left l = -1 := by simp [szF, h]
theorem szF_ok {left : Int} {l : List ByteArray} (h : ¬ left < (l.length : Int) + strSum l) : szF left l = left - l.length - strSum l := by simp only [szF, if_neg h]
/-- a slice of strings that came in -/
theorem open_strsIn {H : Type} {enc : TypeId × Value → H} {P : Program} {w : World} {r : Reach} {b0 : Nat} {t e : TypeId} {v : Value} {d : DataW H} {p : List MemPlace} (ht : P.underlying t = some (.slice e)) (he : P.underlying e = some .string) (hc : P.cellsOf e = 1)
    (hv : Value.okWide P w r b0 t v) (h : DataW.Trod enc P w 0 (fun _ => true) true t v d p) : ∃ a l cap, v = .slice a l.length cap ∧ StrsIn w a l ∧ l.length ≤ 9223372036854775807 ∧ ∀ j, j < l.length → (nthS l j).size ≤ maxLen := by
  obtain ⟨a0, len0, cap0, rfl⟩ := okWide_slice ht hv
  obtain ⟨fuel, hf⟩ := h
  rcases open_strings ht he hc hf with ⟨hcs, _⟩ | ⟨a, len, cap, ss, hcs, _, hl, hm, hz, _, hcell, hsz⟩
  · have e : (Value.slice a0 len0 cap0) = .slice none 0 0 := by simpa [Value.cells] using hcs
    rw [e]
    exact ⟨none, [], 0, rfl, .inl rfl, by simp, fun j hj => absurd hj (by simp)⟩
  · have e : (Value.slice a0 len0 cap0) = .slice (some a) len cap := by simpa [Value.cells] using hcs
    rw [e]
    simp only [if_true] at hz
    have hlen : (ss.take len).length = len := by rw [List.length_take]; omega
    have hat : ∀ j, j < len → nthS (ss.take len) j = ss.getD j ByteArray.empty := fun j hj => by
      rw [nthS_lt (by omega), List.getD_eq_getElem?_getD, List.getElem?_eq_getElem (by omega)]
      simp
    refine ⟨some a, ss.take len, cap, by rw [hlen], ?_, by rw [hlen]; unfold maxLen at hm; omega, fun j hj => ?_⟩
    · by_cases h0 : len = 0
      · left; subst h0; simp
      · obtain ⟨b, off, spot⟩ := a
        have hspot : spot = none := by simpa [Addr.add] using World.cell?_spot (hcell 0 (by omega))
        subst hspot
        right
        refine ⟨b, off, rfl, fun i hi => ?_⟩
        rw [List.length_map, hlen] at hi
        have := hcell i (by omega)
        rw [add_plain] at this
        rw [this, List.getElem_map, ← nthS_lt (by omega), hat i hi]
    · rw [hlen] at hj
      rw [hat j hj, List.getD_eq_getElem?_getD, List.getElem?_eq_getElem (by omega)]
      exact hsz _ (List.getElem_mem _)
end Go.Proofs.YtdhaebbfiaddnaaGreatDoor
namespace Go.Proofs.YtdhaebbfiaddnaaGreatDoor
open Go.RowKit
set_option linter.unusedVariables false
/-- the bytes of a word -/
def blW (s : ByteArray) : List UInt8 := s.data.toList
def blsW (l : List ByteArray) : List (List UInt8) := l.map blW
theorem blW_inj {a b : ByteArray} (h : blW a = blW b) : a = b := by
  obtain ⟨⟨x⟩⟩ := a
  obtain ⟨⟨y⟩⟩ := b
  have : x = y := h
  rw [this]
theorem blsW_mem {u : ByteArray} {l : List ByteArray} : blW u ∈ blsW l ↔ u ∈ l := by
  unfold blsW
  rw [List.mem_map]
  constructor
  · rintro ⟨x, hx, he⟩; rw [← blW_inj he]; exact hx
  · intro h; exact ⟨u, h, rfl⟩
theorem blsW_len (l : List ByteArray) : (blsW l).length = l.length := by simp [blsW]
theorem blsW_nth {l : List ByteArray} {i : Nat} (h : i < l.length) : (blsW l)[i]'(by rw [blsW_len]; exact h) = blW (nthS l i) := by rw [nthS_lt h]; simp [blsW]
/-- the order of words -/
def lessS (a b : ByteArray) : Bool := ltW (blW a) (blW b)
/-- strictly sorted -/
def SortedS (l : List ByteArray) : Prop := SortedW (blsW l)
theorem SortedS.ext {x y : List ByteArray} (hx : SortedS x) (hy : SortedS y) (h : ∀ u, u ∈ x ↔ u ∈ y) : x = y := by
  have key : ∀ {x y : List ByteArray}, (∀ u, u ∈ x ↔ u ∈ y) → ∀ u, u ∈ blsW x → u ∈ blsW y := fun h u hu => by
    obtain ⟨v, hv, rfl⟩ := List.mem_map.1 hu
    exact blsW_mem.2 ((h v).1 hv)
  have h1 := SortedW.ext hx hy (fun u => ⟨key h u, key (fun u => (h u).symm) u⟩)
  exact (List.map_inj_right (fun a b => blW_inj)).1 h1
theorem nodup_bls {x : List ByteArray} (h : (blsW x).Nodup) : x.Nodup := by
  unfold blsW at h
  unfold List.Nodup at *
  rw [List.pairwise_map] at h
  exact h.imp (fun h e => h (by rw [e]))
theorem SortedS.nodup {x : List ByteArray} (hx : SortedS x) : x.Nodup := nodup_bls (SortedW.nodup hx)
theorem SortedS.nil : SortedS [] := List.Pairwise.nil
theorem lessS_same {u v : ByteArray} (h : u.size = v.size) : lessS u v = Op.bytesLess u.toList v.toList := by
  have h1 : (blW u).length = (blW v).length := h
  unfold lessS ltW
  rw [bytesLess_eq, Lib.toList_data, Lib.toList_data]
  unfold blW at *
  simp [h1]
theorem lessS_other {u v : ByteArray} (h : ¬ u.size = v.size) : lessS u v = decide (u.size < v.size) := by
  have h1 : ¬ (blW u).length = (blW v).length := h
  have h2 : (blW u).length = u.size := rfl
  have h3 : (blW v).length = v.size := rfl
  unfold lessS ltW
  simp [h1]
  rw [h2, h3]
set_option maxHeartbeats 400000 in
theorem specIsLess_any (u v : ByteArray) (w : World) (hu : u.size ≤ maxLen) (hv : v.size ≤ maxLen) :
    Calls Tryz.prog 99 #[.string u, .string v] w fun e w' => e = .returned (.bool (lessS u v)) ∧ w = w' := by
  unfold maxLen at hu hv
  by_cases h : u.size = v.size
  · have F := Lib.hid (lessS_same h)
    have h1 : ((u.size : Int) == (v.size : Int)) = true := by simp [h]
    have h2 : ((u.size : Int) != (v.size : Int)) = false := by simp [h]
    clear h
    go_enter Tryz.func99, Tryz.ntmps99
    go_wp2_with fail
    go_ret
    exact ⟨ret_bool F.out.symm, rfl⟩
  · have F := Lib.hid (lessS_other h)
    have h1 : ((u.size : Int) == (v.size : Int)) = false := by rw [beq_eq_false_iff_ne]; omega
    have h2 : ((u.size : Int) != (v.size : Int)) = true := by rw [bne_iff_ne]; omega
    go_enter Tryz.func99, Tryz.ntmps99
    go_wp2_with fail
    go_ret
    exact ⟨ret_bool F.out.symm, rfl⟩
/-- a word comes to its place -/
def insS (x : ByteArray) (q : List ByteArray) (k : Nat) : List ByteArray := q.take k ++ [x] ++ q.drop k
theorem insS_bls (x : ByteArray) (q : List ByteArray) (k : Nat) : blsW (insS x q k) = insK (blW x) (blsW q) k := by
  unfold insS insK blsW
  rw [List.map_append, List.map_append, List.map_take, List.map_drop]; rfl
theorem insS_mem {x : ByteArray} {q : List ByteArray} {k : Nat} (u : ByteArray) : u ∈ insS x q k ↔ u ∈ q ∨ u = x := by
  rw [← blsW_mem, insS_bls, insK_mem, blsW_mem]
  exact ⟨fun h => h.imp id blW_inj, fun h => h.imp id (fun e => by rw [e])⟩
theorem insS_len {x : ByteArray} {q : List ByteArray} {k : Nat} (hk : k ≤ q.length) : (insS x q k).length = q.length + 1 := by
  have h := insK_len (w := blW x) (l := blsW q) (k := k) (by rw [blsW_len]; exact hk)
  rwa [← insS_bls, blsW_len, blsW_len] at h
theorem insS_sorted {x : ByteArray} {q : List ByteArray} {k : Nat} (hq : SortedS q) (hx : ¬ x ∈ q) (hk : k ≤ q.length) (hlo : ∀ i, i < k → lessS (nthS q i) x = true) (hhi : k < q.length → lessS (nthS q k) x = false) : SortedS (insS x q k) := by
  unfold SortedS
  rw [insS_bls]
  refine insK_sorted hq (fun h => hx (blsW_mem.1 h)) (by rw [blsW_len]; exact hk) (fun i h hi => ?_) (fun h => ?_)
  · rw [blsW_len] at h; rw [blsW_nth h]; exact hlo i hi
  · rw [blsW_len] at h; rw [blsW_nth h]; exact hhi h
/-- what a call hands back: the sorted set of the words that have a property -/
def RetSet (P : ByteArray → Prop) (w : World) (e : Ending) (w' : World) : Prop := ∃ q, SortedS q ∧ (∀ u, u ∈ q ↔ P u) ∧ RetSl 9 1 q.length (strVals q) w e w'
theorem owns_cap {w : World} {base : Nat} {T : TypeId} {size n m cap : Nat} {a : Option Addr} {xs : List Value} (h : w.ownsRow base T size (.slice a m cap) n xs) : n ≤ cap ∧ cap ≤ maxLen := by
  rcases h.2 with ⟨hv, h0⟩ | ⟨g, cap', cur, hv, hb, hg, hn, hc, hs, ht⟩
  · cases hv; exact ⟨by omega, by unfold maxLen; omega⟩
  · cases hv; exact ⟨hn, hc⟩
theorem owns_someS {w : World} {base : Nat} {T : TypeId} {v : Value} {n : Nat} {xs : List Value} (h : w.ownsRow base T 1 v n xs) (h0 : 0 < n) : ∃ g cap, v = .slice (some ⟨g, 0, none⟩) n cap := by
  rcases h.2 with ⟨hv, h1⟩ | ⟨g, cap', cur, hv, _⟩
  · omega
  · exact ⟨g, cap', hv⟩
/-- the state of the sort: the first j have come to their places -/
def StSort (xs : List ByteArray) (w : World) (v : Value) (j : Nat) (wr : World) : Prop := ∃ q g cap, v = .slice (some ⟨g, 0, none⟩) q.length cap ∧ SortedS q ∧ (∀ u, u ∈ q ↔ u ∈ xs.take j) ∧ q.length = j ∧ Bld 9 1 w wr v q.length (strVals q)
theorem strVals_one (l : List ByteArray) : ∀ u ∈ strVals l, u.oneCell' = true := fun u hu => by
  obtain ⟨x, _, rfl⟩ := List.mem_map.1 hu; rfl
theorem take_mem {l : List ByteArray} {j : Nat} (h : j < l.length) (u : ByteArray) : u ∈ l.take (j + 1) ↔ u ∈ l.take j ∨ u = nthS l j := by
  rw [List.take_succ_eq_append_getElem h, List.mem_append, List.mem_singleton, nthS_lt h]
theorem nodup_take {l : List ByteArray} (hn : l.Nodup) {j : Nat} (h : j < l.length) : ¬ nthS l j ∈ l.take j := fun hm => by
  rw [nthS_lt h] at hm
  obtain ⟨i, hi, he⟩ := List.getElem_of_mem hm
  rw [List.length_take] at hi
  rw [List.getElem_take] at he
  exact (List.pairwise_iff_getElem.1 hn) i j (by omega) h (by omega) he
end Go.Proofs.YtdhaebbfiaddnaaGreatDoor
namespace Go.Proofs.YtdhaebbfiaddnaaGreatDoor
open Go.RowKit Go.Sort
set_option linter.unusedVariables false
/-- cmp.Compare at strings -/
def cmpS (a b : List UInt8) : Int := if Op.bytesLess a b = true then -1 else if (a == b) = true then 0 else 1
/-- cmp.Or at two integers -/
def orF (x y : Int) : Int := if (x == 0) = true then y else x
/-- compareWords -/
def cfW (a b : ByteArray) : Int := orF (Lib.compareInt (a.size : Int) (b.size : Int)) (cmpS a.toList b.toList)
set_option maxHeartbeats 400000 in
theorem isNaNS_any (a : ByteArray) (w : World) : Calls Tryz.prog 134 #[.string a] w fun e w' => e = .returned (.bool false) ∧ w = w' := by
  go_enter Tryz.func134, Tryz.ntmps134
  go_wp2_with fail
  go_ret
  exact ⟨rfl, rfl⟩
set_option maxHeartbeats 400000 in
theorem compareS_any (a b : ByteArray) (w : World) : Calls Tryz.prog 108 #[.string a, .string b] w fun e w' => e = .returned (.int .i64 (cmpS a.toList b.toList)) ∧ w = w' := by
  cases h1 : Op.bytesLess a.toList b.toList
  · cases h2 : (a.toList == b.toList)
    · have F : Hid (cmpS a.toList b.toList = 1) := Lib.hid (by unfold cmpS; rw [h1, h2]; rfl)
      go_enter Tryz.func108, Tryz.ntmps108
      go_wp2_with (go_at_call 134; refine (isNaNS_any _ _).mono ?_; rintro e w' ⟨rfl, rfl⟩)
      go_ret
      exact ⟨ret_int F.out.symm, rfl⟩
    · have F : Hid (cmpS a.toList b.toList = 0) := Lib.hid (by unfold cmpS; rw [h1, h2]; rfl)
      go_enter Tryz.func108, Tryz.ntmps108
      go_wp2_with (go_at_call 134; refine (isNaNS_any _ _).mono ?_; rintro e w' ⟨rfl, rfl⟩)
      go_ret
      exact ⟨ret_int F.out.symm, rfl⟩
  · have F : Hid (cmpS a.toList b.toList = -1) := Lib.hid (by unfold cmpS; rw [h1]; rfl)
    go_enter Tryz.func108, Tryz.ntmps108
    go_wp2_with (go_at_call 134; refine (isNaNS_any _ _).mono ?_; rintro e w' ⟨rfl, rfl⟩)
    go_ret
    exact ⟨ret_int F.out.symm, rfl⟩
set_option maxHeartbeats 400000 in
theorem orInt_any (x y : Int) (b cap : Nat) (w : World) (h0 : w.cell? ⟨b, 0, none⟩ = some (.int .i64 x)) (h1 : w.cell? ⟨b, 1, none⟩ = some (.int .i64 y)) :
    Calls Tryz.prog 106 #[.slice (some ⟨b, 0, none⟩) 2 cap] w fun e w' => e = .returned (.int .i64 (orF x y)) ∧ w = w' := by
  go_enter Tryz.func106, Tryz.ntmps106
  go_wp2_with fail
  go_loop [8] (fun i => ∃ j : Nat, j ≤ 2 ∧ i = .int .i64 (j : Nat) ∧ Hid (0 < j → x = 0) ∧ Hid (1 < j → y = 0)) (fun i => 2 - (intOf i).toNat)
  case atStart => exact ⟨0, Nat.zero_le _, rfl, Lib.hid (by omega), Lib.hid (by omega)⟩
  case round =>
    obtain ⟨j, hj, rfl, hx, hy⟩ := hrel
    rcases (show j = 0 ∨ j = 1 ∨ j = 2 by omega) with h | h | h
    · subst h
      cases hq : (x == 0)
      · have hn : (x != 0) = true := by rw [bne, hq]; rfl
        have F : Hid (orF x y = x) := Lib.hid (by unfold orF; rw [hq]; rfl)
        go_wp2_with fail
        go_ret
        exact ⟨ret_int F.out.symm, rfl⟩
      · have hn : (x != 0) = false := by rw [bne, hq]; rfl
        have hx2 : Hid (x = 0) := Lib.hid (by simpa using hq)
        go_wp2_with fail
        go_round
        case rel => exact ⟨1, by omega, by go_num, Lib.hid (fun _ => hx2.out), Lib.hid (by omega)⟩
        case measure => simp [intOf]
    · subst h
      have hx2 : Hid (orF x y = y) := Lib.hid (by unfold orF; rw [hx.out (by omega)]; rfl)
      cases hq : (y == 0)
      · have hn : (y != 0) = true := by rw [bne, hq]; rfl
        go_wp2_with fail
        go_ret
        exact ⟨ret_int hx2.out.symm, rfl⟩
      · have hn : (y != 0) = false := by rw [bne, hq]; rfl
        have hy2 : Hid (y = 0) := Lib.hid (by simpa using hq)
        go_wp2_with fail
        go_round
        case rel => exact ⟨2, by omega, by go_num, Lib.hid (fun _ => hx.out (by omega)), Lib.hid (fun _ => hy2.out)⟩
        case measure => simp [intOf]
    · subst h
      have F : Hid ((orF x y) = 0) := Lib.hid (by unfold orF; rw [hx.out (by omega), hy.out (by omega)]; rfl)
      go_wp2_with fail
      go_ret
      exact ⟨ret_int F.out.symm, rfl⟩
set_option maxHeartbeats 400000 in
theorem compareWords_any (a b : ByteArray) (w : World) : Calls Tryz.prog 78 #[.string a, .string b] w fun e w' => e = .returned (.int .i64 (cfW a b)) ∧ ∃ o, w' = w.alloc o := by
  have H1 := Lib.hid (fun W => Tryz.cmp_Compare_int (a.size : Int) (b.size : Int) W)
  have H2 := Lib.hid (fun W => compareS_any a b W)
  have F : Hid (cfW a b = orF (Lib.compareInt (a.size : Int) (b.size : Int)) (cmpS a.toList b.toList)) := Lib.hid rfl
  generalize Lib.compareInt (a.size : Int) (b.size : Int) = x at *
  generalize cmpS a.toList b.toList = y at *
  have H3 : Hid (∀ W : World, Calls Tryz.prog 106 #[.slice (some ⟨W.heap.size, 0, none⟩) 2 2] (W.alloc (.cells #[.int .i64 x, .int .i64 y] 3)) fun e w' => e = .returned (.int .i64 (orF x y)) ∧ W.alloc (.cells #[.int .i64 x, .int .i64 y] 3) = w') := Lib.hid (fun W => orInt_any x y _ _ _ (by simp [World.cell?_alloc_new]) (by simp [World.cell?_alloc_new]))
  go_enter Tryz.func78, Tryz.ntmps78
  go_wp2_with (first | (go_at_call 107; refine (H1.out _).mono ?_; rintro e w' ⟨rfl, rfl⟩) | (go_at_call 108; refine (H2.out _).mono ?_; rintro e w' ⟨rfl, rfl⟩) | (go_at_call 106; refine (H3.out _).mono ?_; rintro e w' ⟨rfl, rfl⟩))
  go_ret
  exact ⟨ret_int F.out.symm, _, rfl⟩
end Go.Proofs.YtdhaebbfiaddnaaGreatDoor
