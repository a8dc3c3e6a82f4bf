/-
  l28Fits.
-/
import Derived.Test.YtldkghfnlkbmpaaFitsAt
import Derived.Deep.RegionHeld3
import Derived.BigQuiet
namespace Go.Proofs.Ytldkghfnlkbmpaa
open Go.RowKit
set_option linter.unusedVariables false
def AllIn (nm pl : List UInt8) : Prop := ∀ c ∈ pl, isVarB c = true → c ∈ nm
theorem AllIn.tail {nm pl l : List UInt8} {c : UInt8} (h : AllIn nm pl) (e : pl = c :: l) : AllIn nm l := fun d hd hv => h d (by rw [e]; exact List.mem_cons_of_mem _ hd) hv
theorem bl_from (s : ByteArray) (n : Nat) : bl (s.extract n s.size) = (bl s).drop n := by
  have : (bl (s.extract n s.size)) = ((bl s).drop n).take (s.size - n) := by simp [bl]
  rw [this, List.take_of_length_le (by rw [List.length_drop, bl_len]; exact Nat.le_refl _)]
theorem bl_cons {p : ByteArray} (h : 0 < p.size) : bl p = p[0] :: bl (p.extract 1 p.size) := by
  have h1 : (bl p).length = p.size := bl_len p
  have h2 : bl (p.extract 1 p.size) = (bl p).drop 1 := bl_from p 1
  rw [h2]
  cases hb : bl p with
  | nil => rw [hb] at h1; simp at h1; omega
  | cons a l =>
    have : p[0] = (bl p)[0]'(by omega) := rfl
    rw [this]; simp [hb]
theorem bl_nil {p : ByteArray} (h : p.size = 0) : bl p = [] := List.eq_nil_of_length_eq_zero (by rw [bl_len, h])
theorem bl_to (s : ByteArray) (n : Nat) : s.extract 0 n = tx ((bl s).take n) := by
  rw [← tx_bl (s.extract 0 n)]; congr 1; simp [bl]
theorem toList_nil {p : ByteArray} (h : p.size = 0) : p.toList.isEmpty = true := by
  rw [ByteArray.toList_eq]
  have := bl_nil h
  unfold bl at this
  rw [this]; rfl
def FitRet (nm p s : ByteArray) (vs : List ByteArray) (b : Nat) (one : Bool) (w : World) (e : Ending) (w' : World) : Prop :=
  ∃ xs, RetSl 29 1 (cutF one (fits (bl nm) (bl p) (bl s) vs)).length xs w e w' ∧ FitsAt w' (fun k => w.heap.size ≤ k ∨ k = b) xs (cutF one (fits (bl nm) (bl p) (bl s) vs))
theorem FitRet.noF {nm p s : ByteArray} {vs : List ByteArray} {b : Nat} {one : Bool} {w w' : World} (h : fits (bl nm) (bl p) (bl s) vs = []) (hb : Below w.heap.size w w') : FitRet nm p s vs b one w (.returned (.slice none 0 0)) w' := by
  unfold FitRet
  rw [h, cutF_nil]
  exact ⟨[], (Bld.nil 29 1 hb).ret, FitsAt.nil _ _⟩
theorem FitRet.oneF {nm p s : ByteArray} {vs : List ByteArray} {b off cap : Nat} {one : Bool} {w : World} (h : fits (bl nm) (bl p) (bl s) vs = [vs]) (hv : StrsIn w (some ⟨b, off, none⟩) vs) (hb : b < w.heap.size) :
    FitRet nm p s vs b one w (.returned (.slice (some ⟨w.heap.size, 0, none⟩) 1 1)) (w.alloc (.cells #[.slice (some ⟨b, off, none⟩) vs.length cap] 29)) := by
  unfold FitRet
  rw [h, cutF_one]
  have k : Below w.heap.size w (w.alloc (.cells #[.slice (some ⟨b, off, none⟩) vs.length cap] 29)) := (Below.refl _ _).alloc (Nat.le_refl _) _
  exact ⟨_, ⟨_, _, rfl, World.ownsRow_lit w #[.slice (some ⟨b, off, none⟩) vs.length cap] 1 (Nat.le_refl _) (by unfold maxLen; omega) rfl, k⟩, FitsAt.one (hv.later k) (Nat.lt_of_lt_of_le hb k.size) (.inr rfl)⟩
theorem FitRet.form {nm p s : ByteArray} {vs : List ByteArray} {b : Nat} {one : Bool} {w : World} {e : Ending} {w' : World} (h : FitRet nm p s vs b one w e w') : ∃ a n c, e = .returned (.slice a n c) := by
  obtain ⟨xs, ⟨a, c, rfl, _⟩, _⟩ := h
  exact ⟨_, _, _, rfl⟩
theorem FitRet.below {nm p s : ByteArray} {vs : List ByteArray} {b : Nat} {one : Bool} {w : World} {e : Ending} {w' : World} (h : FitRet nm p s vs b one w e w') : Below w.heap.size w w' := by
  obtain ⟨xs, ⟨a, c, rfl, _, hb⟩, _⟩ := h
  exact hb
theorem FitRet.since {nm p s p' s' : ByteArray} {vs : List ByteArray} {b : Nat} {one : Bool} {w w' : World} {e : Ending} {w2 : World} (h : FitRet nm p' s' vs b one w' e w2) (hb : Below w.heap.size w w')
    (hf : fits (bl nm) (bl p) (bl s) vs = fits (bl nm) (bl p') (bl s') vs) : FitRet nm p s vs b one w e w2 := by
  unfold FitRet at h ⊢
  rw [hf]
  obtain ⟨xs, ⟨a, c, rfl, ho, hb2⟩, hfa⟩ := h
  exact ⟨xs, ⟨a, c, rfl, owns_mono ho hb.size, Below.now hb hb2⟩, hfa.mono fun k _ hk => hk.elim (fun h => .inl (Nat.le_trans hb.size h)) .inr⟩
theorem StrsIn.at {w : World} {b off : Nat} {l : List ByteArray} (h : StrsIn w (some ⟨b, off, none⟩) l) {k : Nat} (hk : k < l.length) : w.cell? ⟨b, off + k, none⟩ = some (.string (nthS l k)) := by
  rcases h with h | ⟨b', off', ha, hc⟩
  · have : l = [] := by simpa using h
    subst this; simp at hk
  · have hab := Option.some.inj ha
    simp only [Addr.mk.injEq, and_true] at hab
    obtain ⟨rfl, rfl⟩ := hab
    rw [hc k (by simpa using hk), List.getElem_map, nthS_lt hk]
section
theorem Try.infoSl : (Try.prog.info? 29).map (fun i => (i.zero, i.size, i.bytes)) = some (some (.slice none 0 0), 1, 24) := by kernel_rfl
theorem owns_someS {w : World} {base n : Nat} {T : TypeId} {v : Value} {xs : List Value} (h : w.ownsRow base T 1 v n xs) (hn : 0 < n) : ∃ g cap, v = .slice (some ⟨g, 0, none⟩) n cap := by
  rcases h.2 with ⟨_, h0⟩ | ⟨g, cap, cur, hv, _⟩
  · omega
  · exact ⟨g, cap, hv⟩
theorem owns_strsIn {w : World} {base : Nat} {T : TypeId} {a : Option Addr} {n cap : Nat} {l : List ByteArray} (h : w.ownsRow base T 1 (.slice a n cap) n (strVals l)) : StrsIn w a l := owns_cells h
theorem alloc_new (w : World) (o : Obj) : (w.alloc o).heap[w.heap.size]? = some o := by
  unfold World.alloc; simp
theorem alloc_old (w : World) (o : Obj) {k : Nat} (h : k < w.heap.size) : (w.alloc o).heap[k]? = w.heap[k]? := by
  unfold World.alloc; rw [Array.getElem?_push_lt h, Array.getElem?_eq_getElem h]
theorem alloc_size (w : World) (o : Obj) : (w.alloc o).heap.size = w.heap.size + 1 := by simp
theorem two_lo (w : World) (o o' : Obj) : ((w.alloc o).alloc o').heap[w.heap.size]? = some o := by
  rw [alloc_old _ _ (by rw [alloc_size]; omega)]; exact alloc_new _ _
theorem two_hi (w : World) (o o' : Obj) : ((w.alloc o).alloc o').heap[w.heap.size + 1]? = some o' := by
  rw [← alloc_size w o]; exact alloc_new _ _
theorem Bld.drew {T : TypeId} {size : Nat} {w wr : World} {v : Value} {n : Nat} {xs : List Value} (h : Bld T size w wr v n xs) : Bld T size w wr.drew v n xs := ⟨h.1, h.2.drew⟩
theorem Src.drew {w : World} {x : Value} {m : Nat} {news : List Value} (h : Src w x m news) : Src w.drew x m news := h
theorem bld_at {T : TypeId} {wr W : World} {H : Nat} (hb : Below wr.heap.size wr W) (hH : W.heap[H]? = some (.cells #[] T (0, 0))) (hge : wr.heap.size ≤ H) : Bld T 1 wr W (.slice (some ⟨H, 0, none⟩) 0 0) 0 [] :=
  ⟨⟨rfl, .inr ⟨H, 0, #[], rfl, hge, hH, Nat.le_refl _, Nat.zero_le _, rfl, rfl⟩⟩, hb⟩
theorem src_at {T : TypeId} {W : World} {H : Nat} {y : Value} (hH : W.heap[H]? = some (.cells #[y] T (0, 0))) : Src W (.slice (some ⟨H, 0, none⟩) 1 1) 1 [y] := by
  refine .inr ⟨_, _, rfl, fun j u hu => ?_⟩
  have hj : j = 0 := by have := (List.getElem?_eq_some_iff.1 hu).1; simp at this; omega
  subst hj
  rw [add_off]
  simp at hu
  simp [World.cell?, hH, hu]
theorem bld_mk {T : TypeId} {wr W : World} {H : Nat} (hb : Below wr.heap.size wr W) (hH : H = W.heap.size) : Bld T 1 wr (W.alloc (.cells #[] T)) (.slice (some ⟨H, 0, none⟩) 0 0) 0 [] := by
  subst hH; exact (Bld.empty T 1 W).since hb
theorem Src.grown {w w' : World} {H m c : Nat} {own : Option Nat} {news : List Value} (h : Src w (.slice (some ⟨H, 0, none⟩) m c) m news) (hg : w.grownBy w' own) (hH : H < w.heap.size) (hne : own ≠ some H) : Src w' (.slice (some ⟨H, 0, none⟩) m c) m news := by
  rcases h with ⟨h, _⟩ | ⟨ad, c', hx, hc⟩
  · cases h
  · simp only [Value.slice.injEq, Option.some.injEq, true_and] at hx
    obtain ⟨rfl, rfl⟩ := hx
    refine .inr ⟨_, _, rfl, fun j u hu => ?_⟩
    rw [add_off]
    have h1 := hc j u hu
    rw [add_off] at h1
    rw [World.cell?_of_block (w := w) (hg.block H hH (fun e => hne e.symm))]
    exact h1
variable {P : Program}
/-- a row of one element that is there lies still while another row of ours is appended to -/
theorem step_appM_by {ops : Array Oper} {o : Oper} {a : Act} {K : Act → World → Prop} {Q : Exit → Act → World → Prop} {E : Prop} {T tsl : TypeId} {z : Value} {bytes : Nat} (hg : o.guard = none) (s x : Operand)
    (ho : o.op = .call { callee := .builtin .append, args := #[s, x], argTypes := #[tsl, tsl] }) (ht : P.underlying tsl = some (.slice T)) (hinfo : (P.info? T).map (fun i => (i.zero, i.size, i.bytes)) = some (some z, 1, bytes))
    (hzs : z.cells.size = 1) {w wr : World} {H H2 : Nat} {u y : Value} {m : Nat} {news : List Value} (hs : a.eval s = .slice (some ⟨H, 0, none⟩) 0 0) (hb : Bld T 1 w wr (.slice (some ⟨H, 0, none⟩) 0 0) 0 []) (hx : a.eval x = u) (hsrc : Src wr u m news)
    (hy : Src wr (.slice (some ⟨H2, 0, none⟩) 1 1) 1 [y]) (hH : H ≠ H2) (hH2 : H2 < wr.heap.size)
    (hn : news.length = m) (h1 : ∀ u ∈ news, u.oneCell' = true) (h63 : m ≤ maxLen) (hbytes : m * bytes ≤ 140737488355328)
    (hK : ∀ v' w', Bld T 1 w w' v' m news → Src w' (.slice (some ⟨H2, 0, none⟩) 1 1) 1 [y] → K (a.put o.dst v') w') : if Region.wanted o (yielded ops a.tmps) = true then Oper.wp P o a wr K Q else E := by
  refine step_appM hg s x ho ht hinfo hzs (by omega) hs hb hx hsrc (by omega) h1 (by omega) (by rw [Nat.zero_add]; exact hbytes) fun v' w' h2 hgr _ => ?_
  rw [Nat.zero_add, List.nil_append] at h2
  exact hK v' w' h2 (hy.grown hgr hH2 (fun e => hH (by simpa [Value.ownBlock] using e)))
end
theorem strsIn_app {w : World} {base g n cap : Nat} {T : TypeId} {l : List ByteArray} {x : ByteArray} (h : w.ownsRow base T 1 (.slice (some ⟨g, 0, none⟩) n cap) n (strVals l ++ [.string x])) : StrsIn w (some ⟨g, 0, none⟩) (l ++ [x]) := by
  refine owns_strsIn (n := n) (cap := cap) (base := base) (T := T) ?_
  unfold strVals at *
  rw [List.map_append]; exact h
/-- a round that adds fits -/
theorem fits_round {w wr w6 w7 : World} {o v7 : Value} {xs xs6 : List Value} {b g5 : Nat} {F G : List (List ByteArray)} (hbl : Bld 29 1 w wr o xs.length xs)
    (hfa : FitsAt wr (fun q => (w.heap.size ≤ q ∨ q = b) ∧ o.ownBlock ≠ some q) xs F) (h6 : Below wr.heap.size wr w6) (hg5 : wr.heap.size ≤ g5) (hf6 : FitsAt w6 (fun q => wr.heap.size ≤ q ∨ q = g5) xs6 G)
    (hgr : w6.grownBy w7 o.ownBlock) (how : v7.ownBlock = o.ownBlock ∨ v7.ownBlock = some w6.heap.size) :
    FitsAt w7 (fun q => (w.heap.size ≤ q ∨ q = b) ∧ v7.ownBlock ≠ some q) (xs ++ xs6) (F ++ G) := by
  have hlt : ∀ k, o.ownBlock = some k → k < wr.heap.size := fun k hk => (hbl.1.lt k hk).2
  have hge : ∀ k, o.ownBlock = some k → w.heap.size ≤ k := fun k hk => (hbl.1.lt k hk).1
  have e7 : ∀ q, q < w6.heap.size → o.ownBlock ≠ some q → v7.ownBlock ≠ some q := fun q hq hne e => by
    rcases how with h | h
    · exact hne (h ▸ e)
    · rw [h] at e; have := Option.some.inj e; omega
  have hww := hbl.2.size
  have h1 : FitsAt w6 (fun q => ((w.heap.size ≤ q ∨ q = b) ∧ v7.ownBlock ≠ some q) ∧ o.ownBlock ≠ some q) xs F := (hfa.later h6).mono fun q hq hok => ⟨⟨hok.1, e7 q hq hok.2⟩, hok.2⟩
  have h2 : FitsAt w6 (fun q => ((w.heap.size ≤ q ∨ q = b) ∧ v7.ownBlock ≠ some q) ∧ o.ownBlock ≠ some q) xs6 G := hf6.mono fun q hq hok => by
    have hq2 : wr.heap.size ≤ q := by rcases hok with h | h <;> omega
    have hne : o.ownBlock ≠ some q := fun e => by have := hlt q e; omega
    exact ⟨⟨.inl (by omega), e7 q hq hne⟩, hne⟩
  exact ((h1.append h2).grown hgr (fun q hok => hok.2)).mono fun q _ hok => hok.1
set_option maxRecDepth 20000 in
set_option maxHeartbeats 4000000 in
theorem fitsS_any (nm : ByteArray) (one : Bool) (hnm : nm.size ≤ 8) : ∀ (n : Nat) (p s : ByteArray) (vs : List ByteArray) (b off cap : Nat) (w : World), p.size = n → n ≤ 8 → s.size ≤ 16 → AllIn (bl nm) (bl p) →
    StrsIn w (some ⟨b, off, none⟩) vs → vs.length + n ≤ 16 → (∀ j, j < vs.length → (nthS vs j).size ≤ 16) → b < w.heap.size →
    Calls Try.prog 52 #[.string p, .string s, .string nm, .slice (some ⟨b, off, none⟩) vs.length cap, .bool one] w (FitRet nm p s vs b one w) := by
  intro n
  induction n with
  | zero =>
    intro p s vs b off cap w hp _ hs _ hv hl hvs hb
    have e1 := toList_nil hp
    by_cases h : s.size = 0
    · have e2 := toList_nil h
      have F : Hid (fits (bl nm) (bl p) (bl s) vs = [vs]) := Lib.hid (by rw [bl_nil hp, bl_nil h]; exact fits_nil_yes)
      have HV := Lib.hid hv
      have HVS := Lib.hid hvs
      clear hv hvs
      go_enter Try.func52, Try.ntmps52
      go_wp2_with fail
      go_ret
      exact FitRet.oneF F.out HV.out hb
    · have e2 := toList_ne (show 0 < s.size by omega)
      have F : Hid (fits (bl nm) (bl p) (bl s) vs = []) := Lib.hid (by rw [bl_nil hp]; exact fits_nil_no (by rw [bl_len]; omega))
      have HV := Lib.hid hv
      have HVS := Lib.hid hvs
      clear hv hvs
      go_enter Try.func52, Try.ntmps52
      go_wp2_with fail
      go_ret
      exact FitRet.noF F.out (Below.refl _ _)
  | succ n ih =>
    intro p s vs b off cap w hp hn8 hs hin hv hl hvs hb
    have hp0 : 0 < p.size := by omega
    have e1 := toList_ne hp0
    have E := bl_cons hp0
    have HV := Lib.hid hv
    have HVS := Lib.hid hvs
    have HI := Lib.hid hin
    have hby := byte_lt p[0]
    clear hv hvs hin
    cases hvar : isVarB p[0]
    · by_cases h : s.size = 0
      · have e2 := toList_nil h
        have F : Hid (fits (bl nm) (bl p) (bl s) vs = []) := Lib.hid (by rw [E, bl_nil h]; exact fits_let_nil hvar)
        clear E
        go_enter Try.func52, Try.ntmps52
        go_wp2_with (go_at_call 58; refine (l28Variable_any _ _).mono ?_; rintro e w' ⟨h9, rfl⟩; rw [hvar] at h9; subst h9)
        go_quiet (fail)
        go_wp2_with fail
        go_ret
        exact FitRet.noF F.out (below_drewN (Below.refl _ _) _)
      · have hs0 : 0 < s.size := by omega
        have e2 := toList_ne hs0
        have E2 := bl_cons hs0
        have hby2 := byte_lt s[0]
        by_cases hbb : s[0] = p[0]
        · have F : Hid (fits (bl nm) (bl p) (bl s) vs = fits (bl nm) (bl (p.extract 1 p.size)) (bl (s.extract 1 s.size)) vs) := Lib.hid (by rw [E, E2]; exact fits_let hvar hbb)
          have hne : ((s[0].toNat : Int) != (p[0].toNat : Int)) = false := by rw [hbb]; simp
          have hps : (p.extract 1 p.size).size = n := by rw [ByteArray.size_extract]; omega
          have hss : (s.extract 1 s.size).size ≤ 16 := by rw [ByteArray.size_extract]; omega
          have HT := Lib.hid (HI.out.tail E)
          have q1 : (1 : Int) ≤ (p.size : Int) := by omega
          have q2 : (1 : Int) ≤ (s.size : Int) := by omega
          have IHC : Hid (∀ w', Below w.heap.size w w' → Calls Try.prog 52 #[.string (p.extract 1 p.size), .string (s.extract 1 s.size), .string nm, .slice (some ⟨b, off, none⟩) vs.length cap, .bool one] w' (FitRet nm (p.extract 1 p.size) (s.extract 1 s.size) vs b one w')) :=
            Lib.hid fun w' k => ih _ _ vs b off cap w' hps (by omega) hss HT.out (HV.out.later k) (by omega) HVS.out (Nat.lt_of_lt_of_le hb k.size)
          clear E E2 ih hbb hps hss hp hn8 hs hl
          go_enter Try.func52, Try.ntmps52
          go_wp2_with (go_at_call 58; refine (l28Variable_any _ _).mono ?_; rintro e w' ⟨h9, rfl⟩; rw [hvar] at h9; subst h9)
          go_quiet (fail)
          go_wp2_with fail
          go_region_held3 (fun _ => True) (go_keep) (first
            | (go_at_call 52; refine (IHC.out _ (by repeat (first | exact Below.refl _ _ | refine Below.drew ?_ | refine below_drewN ?_ _))).mono ?_; rintro e w2 hfr; have hfr2 := Lib.hid (hfr.since (w := w) (by repeat (first | exact Below.refl _ _ | refine Below.drew ?_ | refine below_drewN ?_ _)) F.out); clear hfr; obtain ⟨ra, rn, rc, rfl⟩ := hfr2.out.form))
          all_goals
            go_wp2_with fail
            go_ret
            exact hfr2.out
        · have hne : ((s[0].toNat : Int) != (p[0].toNat : Int)) = true := by
            rw [bne_iff_ne]
            intro e
            exact hbb (UInt8.toNat.inj (by omega))
          have F : Hid (fits (bl nm) (bl p) (bl s) vs = []) := Lib.hid (by rw [E, E2]; exact fits_let_no hvar hbb)
          clear E E2
          go_enter Try.func52, Try.ntmps52
          go_wp2_with (go_at_call 58; refine (l28Variable_any _ _).mono ?_; rintro e w' ⟨h9, rfl⟩; rw [hvar] at h9; subst h9)
          go_quiet (fail)
          go_wp2_with fail
          go_ret
          exact FitRet.noF F.out (below_drewN (Below.refl _ _) _)
    · obtain ⟨k, e3, e4, e5⟩ := places_head (s := nm) (c := p[0]) (HI.out p[0] (by rw [E]; exact List.mem_cons_self ..) hvar)
      have ek : npos (bl nm) p[0] = k := by unfold npos; show (Lib.indexByte nm.data.toList p[0]).toNat = k; rw [e3]; simp
      have ho := one_eq p 0 hp0
      have hP := fun w => Lib.hid (placesOf_any nm ⟨#[p[0]]⟩ w (by omega) (by show 1 ≤ _; omega) (by show 0 < 1; omega))
      clear e3
      generalize placesL nm ⟨#[p[0]]⟩ = pl at *
      have q1 : (1 : Int) ≤ (p.size : Int) := by omega
      have hps : (p.extract 1 p.size).size = n := by rw [ByteArray.size_extract]; omega
      have HT := Lib.hid (HI.out.tail E)
      by_cases hkv : k < vs.length
      · have hz := HVS.out k hkv
        have HSt := fun w' (hb : Below w.heap.size w w') => (HV.out.later hb).at hkv
        cases hpre : (bl (nthS vs k)).isPrefixOf (bl s)
        · have F : Hid (fits (bl nm) (bl p) (bl s) vs = []) := Lib.hid (by rw [E]; exact fits_old_no hvar (by rw [ek]; exact hkv) (by rw [ek]; exact hpre))
          clear E ih hp hps
          have HS := Lib.hid HSt
          clear HSt
          go_enter Try.func52, Try.ntmps52
          go_wp2_with (go_at_call 58; refine (l28Variable_any _ _).mono ?_; rintro e w' ⟨h9, rfl⟩; rw [hvar] at h9; subst h9)
          refine (hP _).out.mono ?_
          rintro e w3 ⟨a3, c3, rfl, ho3, hb3⟩
          obtain ⟨g, off3, rfl, hg3, hc3⟩ := (owns_ints (l := pl) ho3).cell e4
          have c3' := hc3 0 e4
          rw [e5, Nat.add_zero] at c3'
          have c4 := HS.out w3 hb3
          clear hc3 ho3 hP
          go_wp2_with (go_at_call 81; refine (l22Begins_any _ _ _ (by unfold maxLen; omega) (by unfold maxLen; omega)).mono ?_; rintro e w' ⟨h9, rfl⟩; rw [hpre] at h9; subst h9)
          go_ret
          exact FitRet.noF F.out hb3
        · have hvl := (List.isPrefixOf_iff_prefix.1 hpre).length_le
          rw [bl_len, bl_len] at hvl
          have q2 : ((nthS vs k).size : Int) ≤ (s.size : Int) := by omega
          have hss : (s.extract (nthS vs k).size s.size).size ≤ 16 := by rw [ByteArray.size_extract]; omega
          have F : Hid (fits (bl nm) (bl p) (bl s) vs = fits (bl nm) (bl (p.extract 1 p.size)) (bl (s.extract (nthS vs k).size s.size)) vs) :=
            Lib.hid (by rw [E, fits_old hvar (by rw [ek]; exact hkv) (by rw [ek]; exact hpre), ek, bl_from s])
          have IHC : Hid (∀ w', Below w.heap.size w w' → Calls Try.prog 52 #[.string (p.extract 1 p.size), .string (s.extract (nthS vs k).size s.size), .string nm, .slice (some ⟨b, off, none⟩) vs.length cap, .bool one] w' (FitRet nm (p.extract 1 p.size) (s.extract (nthS vs k).size s.size) vs b one w')) :=
            Lib.hid fun w' k => ih _ _ vs b off cap w' hps (by omega) hss HT.out (HV.out.later k) (by omega) HVS.out (Nat.lt_of_lt_of_le hb k.size)
          clear E ih hps hss
          have HS := Lib.hid HSt
          have hz1 : (nthS vs k).size ≤ maxLen := by unfold maxLen; omega
          have hz2 : s.size ≤ maxLen := by unfold maxLen; omega
          have hz3 : ((nthS vs k).size : Int) < 9223372036854775808 := by omega
          clear HSt hp hs hz hn8 hvl
          generalize nthS vs k = v at *
          go_enter Try.func52, Try.ntmps52
          go_wp2_with (go_at_call 58; refine (l28Variable_any _ _).mono ?_; rintro e w' ⟨h9, rfl⟩; rw [hvar] at h9; subst h9)
          refine (hP _).out.mono ?_
          rintro e w3 ⟨a3, c3, rfl, ho3, hb3⟩
          obtain ⟨g, off3, rfl, hg3, hc3⟩ := (owns_ints (l := pl) ho3).cell e4
          have c3' := hc3 0 e4
          rw [e5, Nat.add_zero] at c3'
          have c4 := HS.out w3 hb3
          clear hc3 ho3 hP
          go_wp2_with (go_at_call 81; refine (l22Begins_any _ _ _ hz2 hz1).mono ?_; rintro e w' ⟨h9, rfl⟩; rw [hpre] at h9; subst h9)
          go_region_held3 (fun w' => w'.cell? ⟨b, off + k, none⟩ = some (.string v)) (go_keep) (first
            | (go_at_call 52; refine (IHC.out _ (by repeat (first | exact hb3 | refine Below.drew ?_ | refine below_drewN ?_ _))).mono ?_; rintro e w2 hfr; have hfr2 := Lib.hid (hfr.since (w := w) (by repeat (first | exact hb3 | refine Below.drew ?_ | refine below_drewN ?_ _)) F.out); have s0 := (hfr2.out.below.cell (Nat.lt_of_lt_of_le hb (Nat.le_refl _))).trans (HS.out w (Below.refl _ _)); clear hfr; obtain ⟨ra, rn, rc, rfl⟩ := hfr2.out.form))
          all_goals
            go_wp2_with fail
            go_ret
            exact hfr2.out
      · have F : Hid (fits (bl nm) (bl p) (bl s) vs = fitsTo (bl nm) (bl (p.extract 1 p.size)) (bl s) vs s.size) := Lib.hid (by rw [E, fits_new hvar (by rw [ek]; exact hkv), bl_len])
        have IHC : Hid (∀ m, m < s.size → ∀ b2 off2 cap2 w', StrsIn w' (some ⟨b2, off2, none⟩) (vs ++ [s.extract 0 (m + 1)]) → b2 < w'.heap.size → Calls Try.prog 52 #[.string (p.extract 1 p.size), .string (s.extract (m + 1) s.size), .string nm, .slice (some ⟨b2, off2, none⟩) (vs.length + 1) cap2, .bool one] w' (FitRet nm (p.extract 1 p.size) (s.extract (m + 1) s.size) (vs ++ [s.extract 0 (m + 1)]) b2 one w')) :=
          Lib.hid fun m hm b2 off2 cap2 w' h1 h2 => by
            have := ih (p.extract 1 p.size) (s.extract (m + 1) s.size) (vs ++ [s.extract 0 (m + 1)]) b2 off2 cap2 w' hps (by omega) (by rw [ByteArray.size_extract]; omega) HT.out h1 (by rw [List.length_append]; show vs.length + 1 + n ≤ 16; omega) (fun j hj => ?_) h2
            · rw [List.length_append] at this; exact this
            · unfold nthS
              rw [List.length_append] at hj
              by_cases hlt : j < vs.length
              · have h3 := HVS.out j hlt
                unfold nthS at h3
                rw [List.getD_eq_getElem?_getD] at h3 ⊢
                rw [List.getElem?_append_left hlt]; exact h3
              · have : j = vs.length := by simp at hj; omega
                subst this
                rw [List.getD_eq_getElem?_getD, List.getElem?_append_right (Nat.le_refl _)]
                simp only [Nat.sub_self, List.getElem?_cons_zero, Option.getD_some]
                rw [ByteArray.size_extract]; omega
        clear E ih hps
        have HL := Lib.hid hl
        have HP9 : Hid (p.size ≤ 8) := Lib.hid (by omega)
        clear hp hn8 hl
        go_enter Try.func52, Try.ntmps52
        go_wp2_with (go_at_call 58; refine (l28Variable_any _ _).mono ?_; rintro e w' ⟨h9, rfl⟩; rw [hvar] at h9; subst h9)
        refine (hP _).out.mono ?_
        rintro e w3 ⟨a3, c3, rfl, ho3, hb3⟩
        obtain ⟨g, off3, rfl, hg3, hc3⟩ := (owns_ints (l := pl) ho3).cell e4
        have c3' := hc3 0 e4
        rw [e5, Nat.add_zero] at c3'
        clear hc3 ho3 hP
        go_wp2_with fail
        go_loopw [12, 13] (fun o i wr => ∃ (j : Nat) (xs : List Value), j ≤ s.size ∧ i = .int .i64 ((j + 1 : Nat) : Int) ∧ Bld 29 1 w wr o xs.length xs ∧ FitsAt wr (fun q => (w.heap.size ≤ q ∨ q = b) ∧ o.ownBlock ≠ some q) xs (cutF one (fitsTo (bl nm) (bl (p.extract 1 p.size)) (bl s) vs j)) ∧ (one = true → fitsTo (bl nm) (bl (p.extract 1 p.size)) (bl s) vs j = [])) (fun _ i _ => s.size + 1 - (intOf i).toNat)
        case atStart => exact ⟨0, [], Nat.zero_le _, rfl, (Bld.empty 29 1 w3).since hb3, by rw [fitsTo_zero, cutF_nil]; exact FitsAt.nil _ _, fun _ => rfl⟩
        case round =>
          clear hb3
          obtain ⟨j, xs, hj, rfl, hbl, hfa, hem⟩ := hrel
          obtain ⟨oa, oc, rfl⟩ := owns_form hbl.1
          by_cases hlt : j < s.size
          · have r1 : ((j + 1 : Nat) : Int) ≤ (s.size : Int) := by omega
            have r2 : (0 : Int) ≤ ((j + 1 : Nat) : Int) := by omega
            have r3 : (((j + 1 : Nat) : Int)).toNat = j + 1 := by omega
            have HB := Lib.hid hbl
            have HF := Lib.hid hfa
            have HE := Lib.hid hem
            have hjs : j + 1 ≤ s.size := hlt
            clear hbl hfa hem hj
            generalize hm : j + 1 = m at *
            go_wp2_with fail
            have hx0 : m - 1 < s.size := by omega
            have HSV : Hid (∀ W, Below w.heap.size w W → Src W (.slice (some ⟨b, off, none⟩) vs.length cap) vs.length (strVals vs)) := Lib.hid (fun W hW => Src.of_cells (HV.out.later hW))
            have hvl : vs.length ≤ 16 := by have := HL.out; omega
            have N1 : Hid ((strVals vs).length = vs.length * 1) := Lib.hid (by simp [strVals])
            have N1b : Hid ((strVals vs).length = vs.length) := Lib.hid (by simp [strVals])
            have N2 : Hid (∀ u ∈ strVals vs, u.oneCell' = true) := Lib.hid (fun u hu => by obtain ⟨x, _, rfl⟩ := List.mem_map.1 hu; rfl)
            have N3 : Hid (0 + vs.length ≤ maxLen) := Lib.hid (by unfold maxLen; omega)
            have N4 : Hid ((0 + vs.length) * 16 ≤ 140737488355328) := Lib.hid (by omega)
            have N5 : Hid (vs.length ≤ maxLen) := Lib.hid (by unfold maxLen; omega)
            have N6 : Hid (vs.length * 16 ≤ 140737488355328) := Lib.hid (by omega)
            have hxl : (s.extract 0 m).size ≤ 16 := by rw [ByteArray.size_extract]; omega
            have IHM : Hid (∀ b2 off2 cap2 w', StrsIn w' (some ⟨b2, off2, none⟩) (vs ++ [s.extract 0 m]) → b2 < w'.heap.size → Calls Try.prog 52 #[.string (p.extract 1 p.size), .string (s.extract m s.size), .string nm, .slice (some ⟨b2, off2, none⟩) (vs.length + 1) cap2, .bool one] w' (FitRet nm (p.extract 1 p.size) (s.extract m s.size) (vs ++ [s.extract 0 m]) b2 one w')) := Lib.hid (by
              have h1 := IHC.out (m - 1) hx0
              rw [show m - 1 + 1 = m by omega] at h1
              exact h1)
            have G1 : Hid (fitsTo (bl nm) (bl (p.extract 1 p.size)) (bl s) vs m = fitsTo (bl nm) (bl (p.extract 1 p.size)) (bl s) vs j ++ fits (bl nm) (bl (p.extract 1 p.size)) (bl (s.extract m s.size)) (vs ++ [s.extract 0 m])) := Lib.hid (by
              rw [← hm, fitsTo_succ, ← bl_from s, ← bl_to s])
            have G2 := Lib.hid (fitsTo_pre (bl nm) (bl (p.extract 1 p.size)) (bl s) vs hjs)
            have hxx := HF.out.1
            have CNT : Hid (fits (bl nm) (bl p) (bl s) vs = fitsTo (bl nm) (bl (p.extract 1 p.size)) (bl s) vs s.size) := Lib.hid F.out
            have hp9 := HP9.out
            have hc1 : xs.length ≤ 6975757441 := by
              rw [hxx]
              refine Nat.le_trans (cutF_len _ _) ?_
              obtain ⟨t, ht⟩ := fitsTo_pre (bl nm) (bl (p.extract 1 p.size)) (bl s) vs (n := j) (m := s.size) (by omega)
              have h1 := fits_count (bl nm) (bl p) (bl s) vs (by rw [bl_len]; exact hs)
              have h2 : 17 ^ (bl p).length ≤ 17 ^ 8 := Nat.pow_le_pow_right (by omega) (by rw [bl_len]; exact hp9)
              have h3 : (fitsTo (bl nm) (bl (p.extract 1 p.size)) (bl s) vs j).length ≤ (fits (bl nm) (bl p) (bl s) vs).length := by rw [CNT.out, ht, List.length_append]; omega
              omega
            have hc2 : (cutF one (fits (bl nm) (bl (p.extract 1 p.size)) (bl (s.extract m s.size)) (vs ++ [s.extract 0 m]))).length ≤ 6975757441 := by
              refine Nat.le_trans (cutF_len _ _) ?_
              have h1 := fits_count (bl nm) (bl (p.extract 1 p.size)) (bl (s.extract m s.size)) (vs ++ [s.extract 0 m]) (by rw [bl_len, ByteArray.size_extract]; omega)
              have h2 : 17 ^ (bl (p.extract 1 p.size)).length ≤ 17 ^ 8 := Nat.pow_le_pow_right (by omega) (by rw [bl_len, ByteArray.size_extract]; omega)
              omega
            have HFJ : Hid (FitsAt wr (fun q => (w.heap.size ≤ q ∨ q = b) ∧ (Value.slice oa xs.length oc).ownBlock ≠ some q) xs (cutF one (fitsTo (bl nm) (bl (p.extract 1 p.size)) (bl s) vs j))) := HF
            have HCA : Hid (cutF one (fitsTo (bl nm) (bl (p.extract 1 p.size)) (bl s) vs m) = cutF one (fitsTo (bl nm) (bl (p.extract 1 p.size)) (bl s) vs j) ++ cutF one (fits (bl nm) (bl (p.extract 1 p.size)) (bl (s.extract m s.size)) (vs ++ [s.extract 0 m]))) := Lib.hid (by rw [G1.out]; exact cutF_app_empty HE.out)
            have HCE : Hid (one = true → fitsTo (bl nm) (bl (p.extract 1 p.size)) (bl s) vs m = fits (bl nm) (bl (p.extract 1 p.size)) (bl (s.extract m s.size)) (vs ++ [s.extract 0 m])) := Lib.hid (fun h => by rw [G1.out, HE.out h]; rfl)
            generalize hG : fits (bl nm) (bl (p.extract 1 p.size)) (bl (s.extract m s.size)) (vs ++ [s.extract 0 m]) = G at *
            have HGG := Lib.hid hG
            have kw := HB.out.2
            have HW := Lib.hid kw
            have C1 : Hid (xs.length + (cutF one G).length ≤ maxLen) := Lib.hid (by unfold maxLen; omega)
            have C2 : Hid ((xs.length + (cutF one G).length) * 24 ≤ 140737488355328) := Lib.hid (by omega)
            have M1 : Hid (∀ u ∈ [Value.string (s.extract 0 m)], u.oneCell' = true) := Lib.hid (fun u hu => by rw [List.mem_singleton.1 hu]; rfl)
            have M3 : Hid (vs.length + 1 ≤ maxLen) := Lib.hid (by unfold maxLen; omega)
            have M4 : Hid ((vs.length + 1) * 16 ≤ 140737488355328) := Lib.hid (by omega)
            have FRet := Lib.hid F.out
            clear kw hG hxx hc1 hc2 hp9 HF F CNT hvl hx0
            go_wp2_with fail
            go_region_held3 (fun _ => True) (go_keep) (first
              | (refine step_appM (w := wr) rfl (.tmp 85) (.tmp 86) (by rfl) Try.underlying29 Try.infoStr rfl (by decide) (by rfl) (Bld.drew (Bld.empty 9 1 wr)) (by rfl) (HSV.out _ (Below.drew (HW.out.alloc HW.out.size _))) N1.out N2.out N3.out N4.out ?_; intro v87 w87 hb87 hg87 ho87; rw [Nat.zero_add, List.nil_append] at hb87; have H87 : Hid (Bld 9 1 wr w87 v87 vs.length (strVals vs)) := Lib.hid hb87; clear hb87 hg87 ho87)
              | (refine step_appM_by (w := wr) (H := wr.heap.size) (H2 := wr.heap.size + 1) (y := .string (s.extract 0 m)) rfl (.tmp 85) (.tmp 86) (by rfl) Try.underlying29 Try.infoStr rfl (by rfl) (bld_at (by repeat (first | exact Below.refl _ _ | refine Below.drew ?_ | refine below_drewN ?_ _ | refine Below.alloc ?_ (by simp; try omega) _)) (by first | exact two_lo _ _ _ | exact two_hi _ _ _ | exact alloc_new _ _) (by omega)) (by rfl) (HSV.out _ (by repeat (first | exact HW.out | refine Below.drew ?_ | refine below_drewN ?_ _ | refine Below.alloc ?_ (by have := HW.out.size; simp; try omega) _))) (src_at (T := 9) (by first | exact two_lo _ _ _ | exact two_hi _ _ _ | exact alloc_new _ _)) (by omega) (by simp; try omega) N1b.out N2.out N5.out N6.out ?_; intro v87 w87 hb87 hs91; have H87 : Hid (Bld 9 1 wr w87 v87 vs.length (strVals vs)) := Lib.hid hb87; have S91 := Lib.hid hs91; clear hb87 hs91)
              | (refine step_appM_by (w := wr) (H := wr.heap.size + 1) (H2 := wr.heap.size) (y := .string (s.extract 0 m)) rfl (.tmp 85) (.tmp 86) (by rfl) Try.underlying29 Try.infoStr rfl (by rfl) (bld_at (by repeat (first | exact Below.refl _ _ | refine Below.drew ?_ | refine below_drewN ?_ _ | refine Below.alloc ?_ (by simp; try omega) _)) (by first | exact two_lo _ _ _ | exact two_hi _ _ _ | exact alloc_new _ _) (by omega)) (by rfl) (HSV.out _ (by repeat (first | exact HW.out | refine Below.drew ?_ | refine below_drewN ?_ _ | refine Below.alloc ?_ (by have := HW.out.size; simp; try omega) _))) (src_at (T := 9) (by first | exact two_lo _ _ _ | exact two_hi _ _ _ | exact alloc_new _ _)) (by omega) (by simp; try omega) N1b.out N2.out N5.out N6.out ?_; intro v87 w87 hb87 hs91; have H87 : Hid (Bld 9 1 wr w87 v87 vs.length (strVals vs)) := Lib.hid hb87; have S91 := Lib.hid hs91; clear hb87 hs91)
              | (refine step_appM (w := wr) rfl (.tmp 87) (.tmp 91) (by rfl) Try.underlying29 Try.infoStr rfl (by decide) (by rfl) (H87.out.later ((Below.refl _ _).alloc (Nat.le_refl _) _)) (by rfl) (src_at (T := 9) (H := w87.heap.size) (alloc_new _ _)) (by rfl) M1.out M3.out M4.out ?_; intro v92 w92 hb92 hg92 ho92; obtain ⟨g5, c5, hv5⟩ := owns_someS hb92.1 (by omega); subst hv5; have H92 : Hid (Bld 9 1 wr w92 (.slice (some ⟨g5, 0, none⟩) (vs.length + 1) c5) (vs.length + 1) (strVals vs ++ [.string (s.extract 0 m)])) := Lib.hid hb92; clear hb92 hg92 ho92)
              | (refine step_appM (w := wr) rfl (.tmp 87) (.tmp 91) (by rfl) Try.underlying29 Try.infoStr rfl (by decide) (by rfl) H87.out (by rfl) S91.out (by rfl) M1.out M3.out M4.out ?_; intro v92 w92 hb92 hg92 ho92; obtain ⟨g5, c5, hv5⟩ := owns_someS hb92.1 (by omega); subst hv5; have H92 : Hid (Bld 9 1 wr w92 (.slice (some ⟨g5, 0, none⟩) (vs.length + 1) c5) (vs.length + 1) (strVals vs ++ [.string (s.extract 0 m)])) := Lib.hid hb92; clear hb92 hg92 ho92)
              | (go_at_call 52; refine (IHM.out g5 0 c5 _ (strsIn_app H92.out.1) (H92.out.1.lt g5 rfl).2).mono ?_; rintro e w6 ⟨xs6, ⟨a6, c6, rfl, ho6, hb6⟩, hf6⟩; rw [HGG.out] at ho6 hf6 ⊢; have K6 : Hid (Below wr.heap.size wr w6) := Lib.hid (Below.now H92.out.2 hb6); have O6 : Hid (w6.ownsRow w92.heap.size 29 1 (.slice a6 (cutF one G).length c6) (cutF one G).length xs6) := Lib.hid ho6; have F6 : Hid (FitsAt w6 (fun q => wr.heap.size ≤ q ∨ q = g5) xs6 (cutF one G)) := Lib.hid (hf6.mono fun q _ hq => hq.elim (fun h => .inl (Nat.le_trans H92.out.2.size h)) .inr); have G5 : Hid (wr.heap.size ≤ g5) := Lib.hid (H92.out.1.lt g5 rfl).1; clear ho6 hb6 hf6 H92)
              | (refine step_appM (w := w) rfl (.tmp 78) (.tmp 94) (by rfl) Try.underlying53 Try.infoSl rfl (by decide) (by rfl) (HB.out.later K6.out) (by rfl) (Src.of_owns O6.out) O6.out.1 F6.out.oneCell C1.out C2.out ?_; intro v7 w7 hb7 hg7 ho7; have R7 : Hid (FitsAt w7 (fun q => (w.heap.size ≤ q ∨ q = b) ∧ v7.ownBlock ≠ some q) (xs ++ xs6) (cutF one (fitsTo (bl nm) (bl (p.extract 1 p.size)) (bl s) vs j) ++ cutF one G)) := Lib.hid (fits_round HB.out HFJ.out K6.out G5.out F6.out hg7 ho7); have H7 : Hid (Bld 29 1 w w7 v7 (xs.length + (cutF one G).length) (xs ++ xs6)) := Lib.hid hb7; have L6 : Hid (xs6.length = (cutF one G).length) := Lib.hid (O6.out.1.trans (Nat.mul_one _)); clear hb7 hg7 ho7))
            all_goals
              obtain ⟨n7, hn7⟩ : ∃ n7, n7 = xs.length + (cutF one G).length := ⟨_, rfl⟩
              have h7 := H7.out
              rw [← hn7] at h7
              obtain ⟨a7, c7, hv7⟩ := owns_form h7.1
              subst hv7
              have H7n : Hid (Bld 29 1 w w7 (.slice a7 n7 c7) n7 (xs ++ xs6)) := Lib.hid h7
              have HN7 : Hid ((xs ++ xs6).length = n7) := Lib.hid (by rw [List.length_append, L6.out, hn7])
              have HR7 : Hid (FitsAt w7 (fun q => (w.heap.size ≤ q ∨ q = b) ∧ (Value.slice a7 n7 c7).ownBlock ≠ some q) (xs ++ xs6) (cutF one (fitsTo (bl nm) (bl (p.extract 1 p.size)) (bl s) vs m))) := Lib.hid (by rw [HCA.out]; exact R7.out)
              have hn7b : n7 ≤ 5864062014806 := by have := C1.out; have := C2.out; omega
              have HL7 : Hid (n7 = (cutF one (fitsTo (bl nm) (bl (p.extract 1 p.size)) (bl s) vs m)).length) := Lib.hid (by rw [← HN7.out, HR7.out.1])
              clear h7 H7 R7 hn7
              cases hone : one
              · have hE : one = true → fitsTo (bl nm) (bl (p.extract 1 p.size)) (bl s) vs m = [] := fun h => by rw [hone] at h; cases h
                have HE7 := Lib.hid hE
                clear hE
                subst hone
                go_wp2_with fail
                go_roundw
                case rel => exact ⟨m, xs ++ xs6, by omega, by go_num, by rw [HN7.out]; exact H7n.out, HR7.out, HE7.out⟩
                case measure => simp [intOf]; omega
              · subst hone
                by_cases hpos : 0 < n7
                · have F9 : Hid (FitRet nm p s vs b true w (.returned (.slice a7 n7 c7)) w7) := Lib.hid (by
                    unfold FitRet
                    obtain ⟨t, ht⟩ := G2.out
                    have h1 : 0 < (cutF true (fitsTo (bl nm) (bl (p.extract 1 p.size)) (bl s) vs m)).length := by rw [← HL7.out]; exact hpos
                    rw [FRet.out, ht, cutF_done h1, ← HL7.out]
                    exact ⟨_, H7n.out.ret, HR7.out.mono fun q _ hq => hq.1⟩)
                  go_wp2_with fail
                  go_ret
                  exact F9.out
                · have hE : fitsTo (bl nm) (bl (p.extract 1 p.size)) (bl s) vs m = [] := cutF_empty (by rw [← HL7.out]; exact hpos)
                  have HE7 := Lib.hid hE
                  clear hE
                  go_wp2_with fail
                  go_roundw
                  case rel => exact ⟨m, xs ++ xs6, by omega, by go_num, by rw [HN7.out]; exact H7n.out, HR7.out, fun _ => HE7.out⟩
                  case measure => simp [intOf]; omega
          · have F2 : j = s.size := by omega
            subst F2
            have hret : Hid (FitRet nm p s vs b one w (.returned (.slice oa xs.length oc)) wr) := Lib.hid (by
              unfold FitRet
              rw [F.out, ← hfa.1]
              exact ⟨xs, hbl.ret, hfa.mono fun q _ hq => hq.1⟩)
            clear hbl hfa hem
            go_wp2_with fail
            go_ret
            exact hret.out
end Go.Proofs.Ytldkghfnlkbmpaa
