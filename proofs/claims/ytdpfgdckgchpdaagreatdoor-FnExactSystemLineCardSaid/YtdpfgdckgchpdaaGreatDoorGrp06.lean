/-
  Join, of the program and of the reference; words in which a full stop stands for the empty one.
-/
import Derived.Test.YtdpfgdckgchpdaaGreatDoorGrp04
import Derived.Maps.AppendAt
import Derived.Laws.OwnMore
import Derived.Test.YtdpfgdckgchpdaaGreatDoorGrp05
import Derived.Test.YtdpfgdckgchpdaaGreatDoorGrp03
import Derived.Test.YtdpfgdckgchpdaaGreatDoorGrp01
namespace Go.Proofs.YtdpfgdckgchpdaaGreatDoor
open Go.RowKit
set_option linter.unusedVariables false
/-- a slice from which elements are taken -/
def Src (w : World) (x : Value) (m : Nat) (news : List Value) : Prop :=
  (x = .slice none 0 0 ∧ m = 0 ∧ news = []) ∨ ∃ ad c, x = .slice (some ad) m c ∧ ∀ j u, news[j]? = some u → w.cell? (ad.add j) = some u
theorem add_off (b o j : Nat) : (⟨b, o, none⟩ : Addr).add j = ⟨b, o + j, none⟩ := by unfold Addr.add; split <;> simp_all
theorem Src.of_cells {w : World} {ad : Addr} {m c : Nat} {news : List Value} (h : CellsIn w (some ad) news) : Src w (.slice (some ad) m c) m news := by
  refine .inr ⟨ad, c, rfl, fun j u hu => ?_⟩
  rcases h with h | ⟨b, off, ha, hc⟩
  · subst h; simp at hu
  · obtain rfl := Option.some.inj ha
    obtain ⟨hj, rfl⟩ := List.getElem?_eq_some_iff.1 hu
    rw [add_off]
    exact hc j hj
theorem Src.of_owns {w : World} {base : Nat} {T : TypeId} {size : Nat} {x : Value} {m : Nat} {news : List Value} (h : w.ownsRow base T size x m news) : Src w x m news := by
  rcases h.2 with ⟨hv, h0⟩ | ⟨g, cap, cur, hv, hb, hg, hn, hc, hs, ht⟩
  · refine .inl ⟨hv, h0, List.eq_nil_of_length_eq_zero (by rw [h.1, h0, Nat.zero_mul])⟩
  · subst hv
    refine .inr ⟨_, _, rfl, fun j u hu => ?_⟩
    obtain ⟨hj, rfl⟩ := List.getElem?_eq_some_iff.1 hu
    rw [add_off, Nat.zero_add, h.cellAt j (by have := h.1; omega)]
    exact hu
theorem Src.lit {w : World} {T : TypeId} {c m : Nat} (news : List Value) : Src (w.alloc (.cells news.toArray T)) (.slice (some ⟨w.heap.size, 0, none⟩) m c) m news := by
  refine .inr ⟨_, _, rfl, fun j u hu => ?_⟩
  rw [add_off, Nat.zero_add, World.cell?_alloc_new]
  simpa using hu
theorem Src.later {w w' : World} {x : Value} {m : Nat} {news : List Value} (h : Src w x m news) (hb : Below w.heap.size w w') : Src w' x m news := by
  rcases h with h | ⟨ad, c, hx, hc⟩
  · exact .inl h
  · refine .inr ⟨ad, c, hx, fun j u hu => ?_⟩
    have h1 := hc j u hu
    rw [hb.cell (World.block_lt_of_cell? w _ h1)]
    exact h1
section
variable {P : Program}
theorem run_appM {tsl ty T : TypeId} {z : Value} {size bytes : Nat} (ht : P.underlying tsl = some (.slice T)) (hinfo : (P.info? T).map (fun i => (i.zero, i.size, i.bytes)) = some (some z, size, bytes))
    (hzs : z.cells.size = size) (hpos : 0 < size) {w wr : World} {v x : Value} {n m : Nat} {xs news : List Value} (hb : Bld T size w wr v n xs) (hx : Src wr x m news)
    (hn : news.length = m * size) (h1 : ∀ u ∈ news, u.oneCell' = true) (h63 : n + m ≤ maxLen) (hbytes : (n + m) * bytes ≤ 140737488355328) :
    ∃ v' w', (Builtin.append_ #[tsl, tsl] ty #[v, x]).run P wr = .ok v' w' ∧ Bld T size w w' v' (n + m) (xs ++ news) ∧ wr.grownBy w' v.ownBlock ∧ (v'.ownBlock = v.ownBlock ∨ v'.ownBlock = some wr.heap.size) := by
  obtain ⟨i0, hi, hz0, hz1, hz2⟩ := info_parts hinfo
  rcases hx with ⟨rfl, rfl, rfl⟩ | ⟨ad, c, rfl, hc⟩
  · refine ⟨v, wr, run_append_owned_none wr w.heap.size tsl ty T i0 size ht hi v n xs hb.1, by simpa using hb, ⟨rfl, rfl, rfl, Nat.le_refl _, fun _ _ _ => rfl⟩, .inl rfl⟩
  · obtain ⟨v', w', hr, h2, h3, h4, h5⟩ := run_append_own_at (P := P) wr w.heap.size tsl ty T i0 z size bytes ht hi hz0 hz1 hz2 hzs hpos v n xs hb.1 ad m c news hn hc h1 h63 hbytes hb.2.size
    exact ⟨v', w', hr, ⟨h2, hb.2.grown h3 hb.2.size (owns_block hb.1)⟩, h3, h5⟩
/-- append of m elements, at a step of a region that draws its order -/
theorem step_appM {ops : Array Oper} {o : Oper} {a : Act} {K : Act → World → Prop} {Q : Exit → Act → World → Prop} {E : Prop} {T tsl : TypeId} {z : Value} {size bytes : Nat} (hg : o.guard = none) (s x : Operand)
    (ho : o.op = .call { callee := .builtin .append, args := #[s, x], argTypes := #[tsl, tsl] }) (ht : P.underlying tsl = some (.slice T)) (hinfo : (P.info? T).map (fun i => (i.zero, i.size, i.bytes)) = some (some z, size, bytes))
    (hzs : z.cells.size = size) (hpos : 0 < size) {w wr : World} {v u : Value} {n m : Nat} {xs news : List Value} (hs : a.eval s = v) (hb : Bld T size w wr v n xs) (hx : a.eval x = u) (hsrc : Src wr u m news)
    (hn : news.length = m * size) (h1 : ∀ u ∈ news, u.oneCell' = true) (h63 : n + m ≤ maxLen) (hbytes : (n + m) * bytes ≤ 140737488355328)
    (hK : ∀ v' w', Bld T size w w' v' (n + m) (xs ++ news) → wr.grownBy w' v.ownBlock → (v'.ownBlock = v.ownBlock ∨ v'.ownBlock = some wr.heap.size) → K (a.put o.dst v') w') : if Region.wanted o (yielded ops a.tmps) = true then Oper.wp P o a wr K Q else E := by
  have hw : Region.wanted o (yielded ops a.tmps) = true := by simp [Region.wanted, hg]
  rw [if_pos hw]
  obtain ⟨v', w', hr, h2, h3, h4⟩ := run_appM (ty := o.type) ht hinfo hzs hpos hb hsrc hn h1 h63 hbytes
  unfold Oper.wp execOp
  simp only [ho, resolve, invoke, builtin, Sem.run_bind, Sem.run_pure, Result.andThen_ok, List.map_toArray, List.map_cons, List.map_nil, hs, hx, hr]
  exact hK _ _ h2 h3 h4
/-- the same at a plain region's list -/
theorem wpList_appM {ops : Array Oper} {rest : List Oper} {o : Oper} {a : Act} {Q : Exit → Act → World → Prop} {T tsl : TypeId} {z : Value} {size bytes : Nat} (hg : o.guard = none) (s x : Operand)
    (ho : o.op = .call { callee := .builtin .append, args := #[s, x], argTypes := #[tsl, tsl] }) (ht : P.underlying tsl = some (.slice T)) (hinfo : (P.info? T).map (fun i => (i.zero, i.size, i.bytes)) = some (some z, size, bytes))
    (hzs : z.cells.size = size) (hpos : 0 < size) {w wr : World} {v u : Value} {n m : Nat} {xs news : List Value} (hs : a.eval s = v) (hb : Bld T size w wr v n xs) (hx : a.eval x = u) (hsrc : Src wr u m news)
    (hn : news.length = m * size) (h1 : ∀ u ∈ news, u.oneCell' = true) (h63 : n + m ≤ maxLen) (hbytes : (n + m) * bytes ≤ 140737488355328)
    (hK : ∀ v' w', Bld T size w w' v' (n + m) (xs ++ news) → wr.grownBy w' v.ownBlock → (v'.ownBlock = v.ownBlock ∨ v'.ownBlock = some wr.heap.size) → wpList P ops Q rest (a.put o.dst v') w') : wpList P ops Q (o :: rest) a wr := by
  refine wpList_plain hg fun K hK' => ?_
  obtain ⟨v', w', hr, h2, h3, h4⟩ := run_appM (ty := o.type) ht hinfo hzs hpos hb hsrc hn h1 h63 hbytes
  unfold Oper.wp execOp
  simp only [ho, resolve, invoke, builtin, Sem.run_bind, Sem.run_pure, Result.andThen_ok, List.map_toArray, List.map_cons, List.map_nil, hs, hx, hr]
  exact hK' _ _ (hK _ _ h2 h3 h4)
end
end Go.Proofs.YtdpfgdckgchpdaaGreatDoor
namespace Go.Proofs.YtdpfgdckgchpdaaGreatDoor
set_option linter.unusedVariables false
section
variable {α : Type} (F : List α → Prop) (N : List α → List α → Prop)
/-- behind the sets out (the last one first) the set S comes up -/
def comesB : List (List α) → List α → Prop
  | [], S => F S
  | X :: out, S => comesB out X ∧ N X S
/-- the run is over: the set that would come is empty or was there -/
def endsB (out : List (List α)) (S : List α) : Prop := comesB F N out S ∧ (S = [] ∨ S ∈ out)
/-- every set of the run came up where it was neither empty nor there before -/
def freshB : List (List α) → Prop
  | [] => True
  | X :: out => freshB out ∧ comesB F N out X ∧ X ≠ [] ∧ ¬ X ∈ out
variable {F N}
theorem comes_uniq (hF : ∀ S S', F S → F S' → S = S') (hN : ∀ X S S', N X S → N X S' → S = S') : ∀ {out : List (List α)} {S S' : List α}, comesB F N out S → comesB F N out S' → S = S'
  | [], S, S', h, h' => hF S S' h h'
  | X :: out, S, S', h, h' => hN X S S' h.2 h'.2
/-- of two runs one is the beginning of the other -/
theorem fresh_pre (hF : ∀ S S', F S → F S' → S = S') (hN : ∀ X S S', N X S → N X S' → S = S') : ∀ {out out' : List (List α)}, freshB F N out → freshB F N out' → out.length ≤ out'.length → ∃ t, out' = t ++ out
  | out, [], h, h', hl => by
    have : out = [] := List.eq_nil_of_length_eq_zero (by simpa using hl)
    exact ⟨[], by rw [this]; rfl⟩
  | out, X :: out', h, h', hl => by
    rcases Nat.lt_or_ge out'.length out.length with hlt | hge
    · cases out with
      | nil => simp at hlt
      | cons Y out =>
        have hlen : out.length = out'.length := by simp at hl hlt; omega
        obtain ⟨t, ht⟩ := fresh_pre hF hN h.1 h'.1 (Nat.le_of_eq hlen)
        have ht0 : t = [] := by
          have := congrArg List.length ht
          rw [List.length_append] at this
          exact List.eq_nil_of_length_eq_zero (by omega)
        subst ht0
        rw [List.nil_append] at ht
        subst ht
        have := comes_uniq hF hN h.2.1 h'.2.1
        exact ⟨[], by rw [this]; rfl⟩
    · obtain ⟨t, ht⟩ := fresh_pre hF hN h h'.1 hge
      exact ⟨X :: t, by rw [ht]; rfl⟩
/-- a run that is over is one -/
theorem ends_uniq (hF : ∀ S S', F S → F S' → S = S') (hN : ∀ X S S', N X S → N X S' → S = S') {out out' : List (List α)} {S S' : List α} (h : freshB F N out) (h' : freshB F N out') (he : endsB F N out S) (he' : endsB F N out' S') : out = out' := by
  have key : ∀ {o o' : List (List α)} {R R' : List α}, freshB F N o → freshB F N o' → endsB F N o R → o.length < o'.length → False := by
    intro o o' R R' h1 h2 h3 hl
    obtain ⟨t, ht⟩ := fresh_pre hF hN h1 h2 (Nat.le_of_lt hl)
    have htl : 0 < t.length := by
      have := congrArg List.length ht
      rw [List.length_append] at this; omega
    -- the set that comes behind o stands in o'
    have hsub : ∀ {t : List (List α)}, 0 < t.length → freshB F N (t ++ o) → ∃ X, comesB F N o X ∧ X ≠ [] ∧ ¬ X ∈ o := by
      intro t
      induction t with
      | nil => intro h; simp at h
      | cons Y t ih =>
        intro _ hf
        rcases Nat.eq_zero_or_pos t.length with h0 | h0
        · have : t = [] := List.eq_nil_of_length_eq_zero h0
          subst this
          exact ⟨Y, hf.2.1, hf.2.2.1, hf.2.2.2⟩
        · exact ih h0 hf.1
    obtain ⟨X, hx, hx1, hx2⟩ := hsub htl (by rw [← ht]; exact h2)
    have := comes_uniq hF hN hx h3.1
    subst this
    rcases h3.2 with e | e
    · exact hx1 e
    · exact hx2 e
  rcases Nat.lt_trichotomy out.length out'.length with hl | hl | hl
  · exact (key (R' := S') h h' he hl).elim
  · obtain ⟨t, ht⟩ := fresh_pre hF hN h h' (Nat.le_of_eq hl)
    have : t = [] := by
      have := congrArg List.length ht
      rw [List.length_append] at this
      exact List.eq_nil_of_length_eq_zero (by omega)
    subst this
    exact ht.symm
  · exact (key (R' := S) h' h he' hl).elim
end
end Go.Proofs.YtdpfgdckgchpdaaGreatDoor
namespace Go.Proofs.YtdpfgdckgchpdaaGreatDoor
open Go.RowKit
set_option linter.unusedVariables false
/-- an answer that tells whether P -/
def RetP (P : Prop) (w : World) (e : Ending) (w' : World) : Prop := ∃ b : Bool, (b = true ↔ P) ∧ e = .returned (.bool b) ∧ Below w.heap.size w w'
theorem RetP.yes {P : Prop} {w w' : World} (h : P) (hb : Below w.heap.size w w') : RetP P w (.returned (.bool true)) w' := ⟨true, ⟨fun _ => h, fun _ => rfl⟩, rfl, hb⟩
theorem RetP.no {P : Prop} {w w' : World} (h : ¬ P) (hb : Below w.heap.size w w') : RetP P w (.returned (.bool false)) w' := ⟨false, ⟨fun h => (by cases h), fun h2 => absurd h2 h⟩, rfl, hb⟩
theorem bytes_eq {a b : ByteArray} : (a.toList == b.toList) = true ↔ a = b := by
  rw [beq_iff_eq, ByteArray.toList_eq, ByteArray.toList_eq]
  constructor
  · intro h
    obtain ⟨⟨x⟩⟩ := a
    obtain ⟨⟨y⟩⟩ := b
    have : x = y := h
    rw [this]
  · intro h; rw [h]
end Go.Proofs.YtdpfgdckgchpdaaGreatDoor
namespace Go.Proofs.YtdpfgdckgchpdaaGreatDoor
open Go.RowKit
set_option linter.unusedVariables false
theorem Tryz.infoStr : (Tryz.prog.info? 9).map (fun i => (i.zero, i.size, i.bytes)) = some (some (.string ⟨#[]⟩), 1, 16) := by kernel_rfl
theorem nil_app (x : ByteArray) : (⟨#[]⟩ : ByteArray) ++ x = x := by ext1; simp
def strVals (l : List ByteArray) : List Value := l.map Value.string
theorem strVals_len (l : List ByteArray) : (strVals l).length = l.length := by simp [strVals]
theorem owns_strs {w : World} {base : Nat} {T : TypeId} {size : Nat} {a : Option Addr} {n m cap : Nat} {l : List ByteArray} (h : w.ownsRow base T size (.slice a m cap) n (strVals l)) : StrsIn w a l := owns_cells h
theorem owns_capS {w : World} {base : Nat} {T : TypeId} {size : Nat} {a : Option Addr} {n m cap : Nat} {xs : List Value} (h : w.ownsRow base T size (.slice a n cap) m xs) : n ≤ cap ∧ cap ≤ maxLen := by
  rcases h.2 with ⟨hv, h0⟩ | ⟨g, cap', cur, hv, hb, hg, hn, hc, r⟩
  · simp only [Value.slice.injEq] at hv
    obtain ⟨_, rfl, rfl⟩ := hv
    exact ⟨Nat.le_refl _, Nat.zero_le _⟩
  · simp only [Value.slice.injEq] at hv
    obtain ⟨_, rfl, rfl⟩ := hv
    exact ⟨hn, hc⟩
set_option maxHeartbeats 400000 in
theorem implJoin_any (l : List ByteArray) (sep : ByteArray) (a : Option Addr) (cap : Nat) (w : World) (hl : StrsIn w a l) (hs0 : 0 < sep.size) (hs1 : sep.size ≤ 1000) (hlen : l.length ≤ 2 ^ 40) (hcap : l.length ≤ cap ∧ cap ≤ maxLen)
    (hsz : (joinF l sep).size ≤ 2 ^ 46) :
    Calls Tryz.prog 55 #[.slice a l.length cap, .string sep] w fun e w' => e = .returned (.string (joinF l sep)) ∧ Below w.heap.size w w' := by
  have HJ := Lib.hid (join_any l sep a cap w hl hs0 hs1 hlen hcap hsz)
  clear hl hsz
  go_enter Tryz.func55, Tryz.ntmps55
  go_wp2_with fail
  refine HJ.out.mono ?_
  rintro e w2 ⟨rfl, hb2⟩
  go_wp2_with fail
  go_ret
  exact ⟨rfl, hb2⟩
/-- a full stop for the empty word -/
def dotB (s : ByteArray) : ByteArray := if s.toList.isEmpty = true then ⟨#[46]⟩ else s
theorem dotB_size (s : ByteArray) : (dotB s).size ≤ s.size + 1 := by
  unfold dotB
  split
  · show 1 ≤ _; omega
  · omega
set_option maxHeartbeats 400000 in
theorem l03Side_any (s : ByteArray) (w : World) :
    Calls Tryz.prog 154 #[.string s] w fun e w' => e = .returned (.string (dotB s)) ∧ w = w' := by
  cases h : s.toList.isEmpty
  · have F : Hid (dotB s = s) := Lib.hid (by simp [dotB, h])
    go_enter Tryz.func154, Tryz.ntmps154
    go_wp2_with fail
    go_ret
    exact ⟨ret_str F.out.symm, rfl⟩
  · have F : Hid (dotB s = ⟨#[46]⟩) := Lib.hid (by simp [dotB, h])
    go_enter Tryz.func154, Tryz.ntmps154
    go_wp2_with fail
    go_ret
    exact ⟨ret_str F.out.symm, rfl⟩
set_option maxHeartbeats 400000 in
theorem dotted_any (s : ByteArray) (w : World) :
    Calls Tryz.prog 92 #[.string s] w fun e w' => e = .returned (.string (dotB s)) ∧ w = w' := by
  cases h : s.toList.isEmpty
  · have F : Hid (dotB s = s) := Lib.hid (by simp [dotB, h])
    go_enter Tryz.func92, Tryz.ntmps92
    go_wp2_with fail
    go_ret
    exact ⟨ret_str F.out.symm, rfl⟩
  · have F : Hid (dotB s = ⟨#[46]⟩) := Lib.hid (by simp [dotB, h])
    go_enter Tryz.func92, Tryz.ntmps92
    go_wp2_with fail
    go_ret
    exact ⟨ret_str F.out.symm, rfl⟩
end Go.Proofs.YtdpfgdckgchpdaaGreatDoor
