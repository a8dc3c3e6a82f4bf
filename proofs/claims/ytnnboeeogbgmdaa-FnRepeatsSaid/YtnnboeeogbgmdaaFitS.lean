/-
  l28Fits.
-/
import Derived.Test.YtnnboeeogbgmdaaFitsAt
import Derived.Deep.RegionHeld3
import Derived.BigQuiet
namespace Go.Proofs.Ytnnboeeogbgmdaa
open Go.RowKit
set_option linter.unusedVariables false
def AllIn (nm pl : List UInt8) : Prop := ∀ c ∈ pl, isVarB c = true → c ∈ nm
theorem AllIn.tail {nm pl l : List UInt8} {c : UInt8} (h : AllIn nm pl) (e : pl = c :: l) : AllIn nm l := fun d hd hv => h d (by rw [e]; exact List.mem_cons_of_mem _ hd) hv
theorem bl_from (s : ByteArray) (n : Nat) : bl (s.extract n s.size) = (bl s).drop n := by
  have : (bl (s.extract n s.size)) = ((bl s).drop n).take (s.size - n) := by simp [bl]
  rw [this, List.take_of_length_le (by rw [List.length_drop, bl_len]; exact Nat.le_refl _)]
theorem bl_cons {p : ByteArray} (h : 0 < p.size) : bl p = p[0] :: bl (p.extract 1 p.size) := by
  have h1 : (bl p).length = p.size := bl_len p
  have h2 : bl (p.extract 1 p.size) = (bl p).drop 1 := bl_from p 1
  rw [h2]
  cases hb : bl p with
  | nil => rw [hb] at h1; simp at h1; omega
  | cons a l =>
    have : p[0] = (bl p)[0]'(by omega) := rfl
    rw [this]; simp [hb]
theorem bl_nil {p : ByteArray} (h : p.size = 0) : bl p = [] := List.eq_nil_of_length_eq_zero (by rw [bl_len, h])
theorem bl_to (s : ByteArray) (n : Nat) : s.extract 0 n = tx ((bl s).take n) := by
  rw [← tx_bl (s.extract 0 n)]; congr 1; simp [bl]
theorem toList_nil {p : ByteArray} (h : p.size = 0) : p.toList.isEmpty = true := by
  rw [ByteArray.toList_eq]
  have := bl_nil h
  unfold bl at this
  rw [this]; rfl
def FitRet (nm p s : ByteArray) (vs : List ByteArray) (b : Nat) (one : Bool) (w : World) (e : Ending) (w' : World) : Prop :=
  ∃ xs, RetSl 33 1 (cutF one (fits (bl nm) (bl p) (bl s) vs)).length xs w e w' ∧ FitsAt w' (fun k => w.heap.size ≤ k ∨ k = b) xs (cutF one (fits (bl nm) (bl p) (bl s) vs))
theorem FitRet.noF {nm p s : ByteArray} {vs : List ByteArray} {b : Nat} {one : Bool} {w w' : World} (h : fits (bl nm) (bl p) (bl s) vs = []) (hb : Below w.heap.size w w') : FitRet nm p s vs b one w (.returned (.slice none 0 0)) w' := by
  unfold FitRet
  rw [h, cutF_nil]
  exact ⟨[], (Bld.nil 33 1 hb).ret, FitsAt.nil _ _⟩
theorem FitRet.oneF {nm p s : ByteArray} {vs : List ByteArray} {b off cap : Nat} {one : Bool} {w : World} (h : fits (bl nm) (bl p) (bl s) vs = [vs]) (hv : StrsIn w (some ⟨b, off, none⟩) vs) (hb : b < w.heap.size) :
    FitRet nm p s vs b one w (.returned (.slice (some ⟨w.heap.size, 0, none⟩) 1 1)) (w.alloc (.cells #[.slice (some ⟨b, off, none⟩) vs.length cap] 33)) := by
  unfold FitRet
  rw [h, cutF_one]
  have k : Below w.heap.size w (w.alloc (.cells #[.slice (some ⟨b, off, none⟩) vs.length cap] 33)) := (Below.refl _ _).alloc (Nat.le_refl _) _
  exact ⟨_, ⟨_, _, rfl, World.ownsRow_lit w #[.slice (some ⟨b, off, none⟩) vs.length cap] 1 (Nat.le_refl _) (by unfold maxLen; omega) rfl, k⟩, FitsAt.one (hv.later k) (Nat.lt_of_lt_of_le hb k.size) (.inr rfl)⟩
theorem FitRet.form {nm p s : ByteArray} {vs : List ByteArray} {b : Nat} {one : Bool} {w : World} {e : Ending} {w' : World} (h : FitRet nm p s vs b one w e w') : ∃ a n c, e = .returned (.slice a n c) := by
  obtain ⟨xs, ⟨a, c, rfl, _⟩, _⟩ := h
  exact ⟨_, _, _, rfl⟩
theorem FitRet.below {nm p s : ByteArray} {vs : List ByteArray} {b : Nat} {one : Bool} {w : World} {e : Ending} {w' : World} (h : FitRet nm p s vs b one w e w') : Below w.heap.size w w' := by
  obtain ⟨xs, ⟨a, c, rfl, _, hb⟩, _⟩ := h
  exact hb
theorem FitRet.since {nm p s p' s' : ByteArray} {vs : List ByteArray} {b : Nat} {one : Bool} {w w' : World} {e : Ending} {w2 : World} (h : FitRet nm p' s' vs b one w' e w2) (hb : Below w.heap.size w w')
    (hf : fits (bl nm) (bl p) (bl s) vs = fits (bl nm) (bl p') (bl s') vs) : FitRet nm p s vs b one w e w2 := by
  unfold FitRet at h ⊢
  rw [hf]
  obtain ⟨xs, ⟨a, c, rfl, ho, hb2⟩, hfa⟩ := h
  exact ⟨xs, ⟨a, c, rfl, owns_mono ho hb.size, Below.now hb hb2⟩, hfa.mono fun k _ hk => hk.elim (fun h => .inl (Nat.le_trans hb.size h)) .inr⟩
theorem StrsIn.at {w : World} {b off : Nat} {l : List ByteArray} (h : StrsIn w (some ⟨b, off, none⟩) l) {k : Nat} (hk : k < l.length) : w.cell? ⟨b, off + k, none⟩ = some (.string (nthS l k)) := by
  rcases h with h | ⟨b', off', ha, hc⟩
  · have : l = [] := by simpa using h
    subst this; simp at hk
  · have hab := Option.some.inj ha
    simp only [Addr.mk.injEq, and_true] at hab
    obtain ⟨rfl, rfl⟩ := hab
    rw [hc k (by simpa using hk), List.getElem_map, nthS_lt hk]
section
theorem Try.infoSl : (Try.prog.info? 33).map (fun i => (i.zero, i.size, i.bytes)) = some (some (.slice none 0 0), 1, 24) := by kernel_rfl
theorem owns_someS {w : World} {base n : Nat} {T : TypeId} {v : Value} {xs : List Value} (h : w.ownsRow base T 1 v n xs) (hn : 0 < n) : ∃ g cap, v = .slice (some ⟨g, 0, none⟩) n cap := by
  rcases h.2 with ⟨_, h0⟩ | ⟨g, cap, cur, hv, _⟩
  · omega
  · exact ⟨g, cap, hv⟩
theorem owns_strsIn {w : World} {base : Nat} {T : TypeId} {a : Option Addr} {n cap : Nat} {l : List ByteArray} (h : w.ownsRow base T 1 (.slice a n cap) n (strVals l)) : StrsIn w a l := owns_cells h
theorem alloc_new (w : World) (o : Obj) : (w.alloc o).heap[w.heap.size]? = some o := by
  unfold World.alloc; simp
theorem alloc_old (w : World) (o : Obj) {k : Nat} (h : k < w.heap.size) : (w.alloc o).heap[k]? = w.heap[k]? := by
  unfold World.alloc; rw [Array.getElem?_push_lt h, Array.getElem?_eq_getElem h]
theorem alloc_size (w : World) (o : Obj) : (w.alloc o).heap.size = w.heap.size + 1 := by simp
theorem two_lo (w : World) (o o' : Obj) : ((w.alloc o).alloc o').heap[w.heap.size]? = some o := by
  rw [alloc_old _ _ (by rw [alloc_size]; omega)]; exact alloc_new _ _
theorem two_hi (w : World) (o o' : Obj) : ((w.alloc o).alloc o').heap[w.heap.size + 1]? = some o' := by
  rw [← alloc_size w o]; exact alloc_new _ _
theorem Bld.drew {T : TypeId} {size : Nat} {w wr : World} {v : Value} {n : Nat} {xs : List Value} (h : Bld T size w wr v n xs) : Bld T size w wr.drew v n xs := ⟨h.1, h.2.drew⟩
theorem Src.drew {w : World} {x : Value} {m : Nat} {news : List Value} (h : Src w x m news) : Src w.drew x m news := h
theorem bld_at {T : TypeId} {wr W : World} {H : Nat} (hb : Below wr.heap.size wr W) (hH : W.heap[H]? = some (.cells #[] T (0, 0))) (hge : wr.heap.size ≤ H) : Bld T 1 wr W (.slice (some ⟨H, 0, none⟩) 0 0) 0 [] :=
  ⟨⟨rfl, .inr ⟨H, 0, #[], rfl, hge, hH, Nat.le_refl _, Nat.zero_le _, rfl, rfl⟩⟩, hb⟩
theorem src_at {T : TypeId} {W : World} {H : Nat} {y : Value} (hH : W.heap[H]? = some (.cells #[y] T (0, 0))) : Src W (.slice (some ⟨H, 0, none⟩) 1 1) 1 [y] := by
  refine .inr ⟨_, _, rfl, fun j u hu => ?_⟩
  have hj : j = 0 := by have := (List.getElem?_eq_some_iff.1 hu).1; simp at this; omega
  subst hj
  rw [add_off]
  simp at hu
  simp [World.cell?, hH, hu]
theorem bld_mk {T : TypeId} {wr W : World} {H : Nat} (hb : Below wr.heap.size wr W) (hH : H = W.heap.size) : Bld T 1 wr (W.alloc (.cells #[] T)) (.slice (some ⟨H, 0, none⟩) 0 0) 0 [] := by
  subst hH; exact (Bld.empty T 1 W).since hb
theorem Src.grown {w w' : World} {H m c : Nat} {own : Option Nat} {news : List Value} (h : Src w (.slice (some ⟨H, 0, none⟩) m c) m news) (hg : w.grownBy w' own) (hH : H < w.heap.size) (hne : own ≠ some H) : Src w' (.slice (some ⟨H, 0, none⟩) m c) m news := by
  rcases h with ⟨h, _⟩ | ⟨ad, c', hx, hc⟩
  · cases h
  · simp only [Value.slice.injEq, Option.some.injEq, true_and] at hx
    obtain ⟨rfl, rfl⟩ := hx
    refine .inr ⟨_, _, rfl, fun j u hu => ?_⟩
    rw [add_off]
    have h1 := hc j u hu
    rw [add_off] at h1
    rw [World.cell?_of_block (w := w) (hg.block H hH (fun e => hne e.symm))]
    exact h1
variable {P : Program}
/-- a row of one element that is there lies still while another row of ours is appended to -/
theorem step_appM_by {ops : Array Oper} {o : Oper} {a : Act} {K : Act → World → Prop} {Q : Exit → Act → World → Prop} {E : Prop} {T tsl : TypeId} {z : Value} {bytes : Nat} (hg : o.guard = none) (s x : Operand)
    (ho : o.op = .call { callee := .builtin .append, args := #[s, x], argTypes := #[tsl, tsl] }) (ht : P.underlying tsl = some (.slice T)) (hinfo : (P.info? T).map (fun i => (i.zero, i.size, i.bytes)) = some (some z, 1, bytes))
    (hzs : z.cells.size = 1) {w wr : World} {H H2 : Nat} {u y : Value} {m : Nat} {news : List Value} (hs : a.eval s = .slice (some ⟨H, 0, none⟩) 0 0) (hb : Bld T 1 w wr (.slice (some ⟨H, 0, none⟩) 0 0) 0 []) (hx : a.eval x = u) (hsrc : Src wr u m news)
    (hy : Src wr (.slice (some ⟨H2, 0, none⟩) 1 1) 1 [y]) (hH : H ≠ H2) (hH2 : H2 < wr.heap.size)
    (hn : news.length = m) (h1 : ∀ u ∈ news, u.oneCell' = true) (h63 : m ≤ maxLen) (hbytes : m * bytes ≤ 140737488355328)
    (hK : ∀ v' w', Bld T 1 w w' v' m news → Src w' (.slice (some ⟨H2, 0, none⟩) 1 1) 1 [y] → K (a.put o.dst v') w') : if Region.wanted o (yielded ops a.tmps) = true then Oper.wp P o a wr K Q else E := by
  refine step_appM hg s x ho ht hinfo hzs (by omega) hs hb hx hsrc (by omega) h1 (by omega) (by rw [Nat.zero_add]; exact hbytes) fun v' w' h2 hgr _ => ?_
  rw [Nat.zero_add, List.nil_append] at h2
  exact hK v' w' h2 (hy.grown hgr hH2 (fun e => hH (by simpa [Value.ownBlock] using e)))
end
theorem strsIn_app {w : World} {base g n cap : Nat} {T : TypeId} {l : List ByteArray} {x : ByteArray} (h : w.ownsRow base T 1 (.slice (some ⟨g, 0, none⟩) n cap) n (strVals l ++ [.string x])) : StrsIn w (some ⟨g, 0, none⟩) (l ++ [x]) := by
  refine owns_strsIn (n := n) (cap := cap) (base := base) (T := T) ?_
  unfold strVals at *
  rw [List.map_append]; exact h
/-- a round that adds fits -/
theorem fits_round {w wr w6 w7 : World} {o v7 : Value} {xs xs6 : List Value} {b g5 : Nat} {F G : List (List ByteArray)} (hbl : Bld 33 1 w wr o xs.length xs)
    (hfa : FitsAt wr (fun q => (w.heap.size ≤ q ∨ q = b) ∧ o.ownBlock ≠ some q) xs F) (h6 : Below wr.heap.size wr w6) (hg5 : wr.heap.size ≤ g5) (hf6 : FitsAt w6 (fun q => wr.heap.size ≤ q ∨ q = g5) xs6 G)
    (hgr : w6.grownBy w7 o.ownBlock) (how : v7.ownBlock = o.ownBlock ∨ v7.ownBlock = some w6.heap.size) :
    FitsAt w7 (fun q => (w.heap.size ≤ q ∨ q = b) ∧ v7.ownBlock ≠ some q) (xs ++ xs6) (F ++ G) := by
  have hlt : ∀ k, o.ownBlock = some k → k < wr.heap.size := fun k hk => (hbl.1.lt k hk).2
  have hge : ∀ k, o.ownBlock = some k → w.heap.size ≤ k := fun k hk => (hbl.1.lt k hk).1
  have e7 : ∀ q, q < w6.heap.size → o.ownBlock ≠ some q → v7.ownBlock ≠ some q := fun q hq hne e => by
    rcases how with h | h
    · exact hne (h ▸ e)
    · rw [h] at e; have := Option.some.inj e; omega
  have hww := hbl.2.size
  have h1 : FitsAt w6 (fun q => ((w.heap.size ≤ q ∨ q = b) ∧ v7.ownBlock ≠ some q) ∧ o.ownBlock ≠ some q) xs F := (hfa.later h6).mono fun q hq hok => ⟨⟨hok.1, e7 q hq hok.2⟩, hok.2⟩
  have h2 : FitsAt w6 (fun q => ((w.heap.size ≤ q ∨ q = b) ∧ v7.ownBlock ≠ some q) ∧ o.ownBlock ≠ some q) xs6 G := hf6.mono fun q hq hok => by
    have hq2 : wr.heap.size ≤ q := by rcases hok with h | h <;> omega
    have hne : o.ownBlock ≠ some q := fun e => by have := hlt q e; omega
    exact ⟨⟨.inl (by omega), e7 q hq hne⟩, hne⟩
  exact ((h1.append h2).grown hgr (fun q hok => hok.2)).mono fun q _ hok => hok.1
end Go.Proofs.Ytnnboeeogbgmdaa
