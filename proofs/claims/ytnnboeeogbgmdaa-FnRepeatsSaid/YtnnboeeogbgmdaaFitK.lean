/-
  The program's search for fits.
-/
import Derived.Test.YtnnboeeogbgmdaaFitPl
import Derived.IntWalk
namespace Go.Proofs.Ytnnboeeogbgmdaa
open Go.RowKit
set_option linter.unusedVariables false
/-- what the search has captured -/
structure Bxs (H bo bp bw bn bf : Nat) (p s : ByteArray) (W : World) : Prop where
  cp : W.cell? ⟨bp, 0, none⟩ = some (.string p)
  cw : W.cell? ⟨bw, 0, none⟩ = some (.string s)
  cn : W.cell? ⟨bn, 0, none⟩ = some (.string (varsOf p))
  cf : W.cell? ⟨bf, 0, none⟩ = some (.func (.func 68) #[] #[.pointer (some ⟨bp, 0, none⟩), .pointer (some ⟨bw, 0, none⟩), .pointer (some ⟨bo, 0, none⟩), .pointer (some ⟨bn, 0, none⟩), .pointer (some ⟨bf, 0, none⟩)])
  lt : bp < H ∧ bw < H ∧ bn < H ∧ bf < H
  ne : bp ≠ bo ∧ bw ≠ bo ∧ bn ≠ bo ∧ bf ≠ bo
theorem Bxs.rel {H bo bp bw bn bf : Nat} {p s : ByteArray} {W W' : World} {o o' : Value} {F : List (List ByteArray)} (h : Bxs H bo bp bw bn bf p s W) (hk : OutK H bo W o F) (hr : FitRel bo W W' o o') : Bxs H bo bp bw bn bf p s W' :=
  ⟨hr.cell h.cp h.ne.1 (hk.far h.lt.1), hr.cell h.cw h.ne.2.1 (hk.far h.lt.2.1), hr.cell h.cn h.ne.2.2.1 (hk.far h.lt.2.2.1), hr.cell h.cf h.ne.2.2.2 (hk.far h.lt.2.2.2), h.lt, h.ne⟩
/-- the list may be handed on: it lies apart from what is filled -/
def Apart (bo : Nat) (W : World) (o : Value) (a : Option Addr) : Prop := ∀ x, a = some x → x.block ≠ bo ∧ o.ownBlock ≠ some x.block ∧ x.block < W.heap.size
theorem Apart.rel {bo : Nat} {W W' : World} {o o' : Value} {a : Option Addr} (h : Apart bo W o a) (hr : FitRel bo W W' o o') : Apart bo W' o' a := fun x hx => by
  obtain ⟨h1, h2, h3⟩ := h x hx
  exact ⟨h1, hr.far h3 h2, Nat.lt_of_lt_of_le h3 hr.size⟩
theorem Apart.strs {bo : Nat} {W W' : World} {o o' : Value} {a : Option Addr} {l : List ByteArray} (h : Apart bo W o a) (hr : FitRel bo W W' o o') (hl : StrsIn W a l) : StrsIn W' a l := hr.strs hl fun x hx => ⟨(h x hx).1, (h x hx).2.1⟩
theorem FitPost.since {H bo : Nat} {o o1 : Value} {n n1 c1 c : List (List ByteArray)} {W W1 W' : World} {e : Ending} (h : FitPost H bo o1 n1 c1 W1 e W') (hr : FitRel bo W W1 o o1) (hc : n1 ++ c1 = n ++ c) : FitPost H bo o n c W e W' := by
  obtain ⟨he, o', h1, h2⟩ := h
  exact ⟨he, o', hr.trans h1, hc ▸ h2⟩
theorem FitPost.ret {H bo : Nat} {o : Value} {n c : List (List ByteArray)} {W W' : World} {e : Ending} (h : FitPost H bo o n c W e W') : e = .returned (.tuple #[]) := h.1
theorem World.cell_grown {w w' : World} {own : Option Nat} {a : Addr} {v : Value} (hg : w.grownBy w' own) (hc : w.cell? a = some v) (ho : own ≠ some a.block) : w'.cell? a = some v := by
  rw [World.cell?_of_block (w := w) (hg.block _ (World.block_lt_of_cell? w _ hc) (fun e => ho e.symm))]; exact hc
theorem World.frozen_grown {w w' : World} {own : Option Nat} {b : Nat} {v : Bool} (hg : w.grownBy w' own) (hl : b < w.heap.size) (hc : w.frozen? ⟨b, 0, none⟩ = v) (ho : own ≠ some b) : w'.frozen? ⟨b, 0, none⟩ = v := by
  unfold World.frozen? at *
  rw [hg.block b hl (fun e => ho e.symm)]; exact hc
theorem postB {H bo bp bw bn bf : Nat} {p s : ByteArray} {W W1 W2 : World} {o : Value} {n c : List (List ByteArray)} {e : Ending} (hb : Bxs H bo bp bw bn bf p s W) (hk : OutK H bo W o n) (h1 : Below W.heap.size W W1) (h : FitPost H bo o n c W1 e W2) : Bxs H bo bp bw bn bf p s W2 := by
  obtain ⟨_, o', h2, _⟩ := h
  exact hb.rel hk ((FitRel.of_below h1).trans h2)
theorem OutK.lt_size {H bo : Nat} {W : World} {o : Value} {n : List (List ByteArray)} (h : OutK H bo W o n) : bo < W.heap.size := Nat.lt_of_lt_of_le h.lt h.le
section
variable {P : Program}
/-- append of one element to a row that lies from H on, at a step of a region that draws its order -/
theorem step_appK {ops : Array Oper} {o : Oper} {a : Act} {K : Act → World → Prop} {Q : Exit → Act → World → Prop} {E : Prop} {T tsl : TypeId} {z : Value} {size bytes : Nat} (hg : o.guard = none) (s x : Operand)
    (ho : o.op = .call { callee := .builtin .append, args := #[s, x], argTypes := #[tsl, tsl] }) (ht : P.underlying tsl = some (.slice T)) (hinfo : (P.info? T).map (fun i => (i.zero, i.size, i.bytes)) = some (some z, size, bytes))
    (hzs : z.cells.size = size) (hpos : 0 < size) {H : Nat} {wr : World} {v : Value} {n : Nat} {xs news : List Value} (hs : a.eval s = v) (hb : wr.ownsRow H T size v n xs) (hH : H ≤ wr.heap.size) (hx : a.eval x = .slice (some ⟨wr.heap.size, 0, none⟩) 1 1)
    (hn : news.length = size) (h1 : ∀ u ∈ news, u.oneCell' = true) (h63 : n + 1 ≤ maxLen) (hbytes : (n + 1) * bytes ≤ 140737488355328)
    (hK : ∀ g cap w', w'.ownsRow H T size (.slice (some ⟨g, 0, none⟩) (n + 1) cap) (n + 1) (xs ++ news) → (wr.alloc (.cells news.toArray T)).grownBy w' v.ownBlock → (v.ownBlock = some g ∨ g = (wr.alloc (.cells news.toArray T)).heap.size) → K (a.put o.dst (.slice (some ⟨g, 0, none⟩) (n + 1) cap)) w') :
    if Region.wanted o (yielded ops a.tmps) = true then Oper.wp P o a (wr.alloc (.cells news.toArray T)) K Q else E := by
  obtain ⟨i0, hi, hz0, hz1, hz2⟩ := info_parts hinfo
  refine step_append_lies (w := wr.alloc (.cells news.toArray T)) hg s x tsl ho H T i0 z size bytes ht hi hz0 hz1 hz2 hzs hpos v n xs hs (hb.alloc _) ⟨wr.heap.size, 0, none⟩ 1 1 news hx (by omega) ?_ h1 (by omega) h63 hbytes ?_ _ rfl ?_
  · intro j u hu
    rw [add_off, Nat.zero_add, World.cell?_alloc_new]
    simpa using hu
  · simp; omega
  · intro g cap w' hown hgr ho _
    exact hK g cap w' hown hgr ho
end
set_option maxRecDepth 20000 in
set_option maxHeartbeats 4000000 in
theorem fitK_any (p s : ByteArray) (H bo bp bw bn bf : Nat) (hp8 : p.size ≤ 8) (hs : s.size ≤ 16) : ∀ (n i at_ : Nat) (vs : List ByteArray) (a : Option Addr) (cap : Nat) (o : Value) (F : List (List ByteArray)) (W : World),
    p.size = i + n → at_ ≤ s.size → vs.length = (varsTo p i).size → Full vs → (∀ j, j < vs.length → (nthS vs j).size ≤ 16) → StrsIn W a vs → Apart bo W o a → OutK H bo W o F → Bxs H bo bp bw bn bf p s W →
    F.length + (fits (bl (varsOf p)) ((bl p).drop i) ((bl s).drop at_) vs).length ≤ 6975757441 →
    Calls Try.prog 68 #[.int .i64 (i : Nat), .int .i64 (at_ : Nat), .slice a vs.length cap, .pointer (some ⟨bp, 0, none⟩), .pointer (some ⟨bw, 0, none⟩), .pointer (some ⟨bo, 0, none⟩), .pointer (some ⟨bn, 0, none⟩), .pointer (some ⟨bf, 0, none⟩)] W (FitPost H bo o F (fits (bl (varsOf p)) ((bl p).drop i) ((bl s).drop at_) vs) W) := by
  intro n
  induction n with
  | zero =>
    intro i at_ vs a cap o F W hi hat hvl hfu hvs hv hap hk hbx hcn
    obtain rfl : i = p.size := by omega
    have hv8 : vs.length ≤ 8 := by have := varsTo_size p p.size; omega
    have hd : (bl p).drop p.size = [] := List.drop_of_length_le (by rw [bl_len]; exact Nat.le_refl _)
    have c1 := hbx.cp
    have c2 := hbx.cw
    clear hi hvl
    by_cases hat2 : at_ = s.size
    · subst hat2
      have hc : fits (bl (varsOf p)) ((bl p).drop p.size) ((bl s).drop s.size) vs = [vs] := by rw [hd, List.drop_of_length_le (by rw [bl_len]; exact Nat.le_refl _), fits_nil_yes]
      rw [hc] at hcn ⊢
      rw [List.length_singleton] at hcn
      have HK := Lib.hid hk
      have HBX := Lib.hid hbx
      have HCl : Hid (∀ W', Below W.heap.size W W' → Calls Try.prog 69 #[.slice a vs.length cap] W' fun e w' => ∃ v', e = .returned v' ∧ Bld 9 1 W w' v' vs.length (strVals vs)) := Lib.hid (fun W' hb => (cloneS_any vs a cap W' (hv.later hb) (by omega)).mono fun _ _ ⟨v', he, hbl⟩ => ⟨v', he, hbl.since hb⟩)
      have c3 := hk.cell.1
      have c4 := hk.cell.2
      have HH := Lib.hid hk.le
      obtain ⟨xs, hxs⟩ := hk.row
      have HXS := Lib.hid hxs
      have hbo : bo < H := hk.lt
      have hfar : o.ownBlock ≠ some bo := hk.far hbo
      have HFR := Lib.hid hfar
      have M1 : Hid (∀ v : Value, (∃ a n cp, v = .slice a n cp) → ∀ u ∈ [v], u.oneCell' = true) := Lib.hid (fun v hv u hu => by obtain ⟨a, n, cp, rfl⟩ := hv; rw [List.mem_singleton.1 hu]; rfl)
      have N3 : Hid (F.length + 1 ≤ maxLen) := Lib.hid (by unfold maxLen; omega)
      have N4 : Hid ((F.length + 1) * 24 ≤ 140737488355328) := Lib.hid (by omega)
      clear hc hd hk hbx hv hap hfu hvs hxs hfar
      have kr := Below.refl W.heap.size W
      go_enter Try.func68, Try.ntmps68
      go_wp2_with fail
      go_region_law (first
        | (go_simp; go_at_call 69; refine (HCl.out _ (by repeat (first | exact kr | refine Below.drew ?_ | refine below_drewN ?_ _ | refine Below.alloc ?_ (by have := kr.size; simp; try omega) _))).mono ?_; rintro e w2 ⟨v2, rfl, hb2⟩; dsimp only; replace kr : Below W.heap.size W w2 := hb2.2; have s0 : w2.cell? ⟨bo, 0, none⟩ = some o := (HK.out.later kr).cell.1; have s1 : w2.frozen? ⟨bo, 0, none⟩ = false := (HK.out.later kr).cell.2; have s3 : ∀ ob, (w2.alloc ob).cell? ⟨bo, 0, none⟩ = some o := fun ob => (HK.out.later (kr.alloc kr.size ob)).cell.1; have s2 : ∀ ob, (w2.alloc ob).frozen? ⟨bo, 0, none⟩ = false := fun ob => (HK.out.later (kr.alloc kr.size ob)).cell.2; obtain ⟨va, vc, hva⟩ := owns_form hb2.1; subst hva; have HV2 : Hid (w2.ownsRow W.heap.size 9 1 (.slice va vs.length vc) vs.length (strVals vs)) := Lib.hid hb2.1; clear hb2)
        | (refine step_appK rfl (.tmp 31) (.tmp 34) (by rfl) Try.underlying67 Try.infoSl rfl (by decide) (by rfl) (owns_later HXS.out.1 kr) (Nat.le_trans HH.out kr.size) (by rfl) (by rfl) (M1.out _ ⟨_, _, _, rfl⟩) N3.out N4.out ?_; intro g gc w4 hn4 hg4 ho4; have P4 : Hid (FitRel bo W (w4.setCell ⟨bo, 0, none⟩ (.slice (some ⟨g, 0, none⟩) (F.length + 1) gc)) o (.slice (some ⟨g, 0, none⟩) (F.length + 1) gc) ∧ OutK H bo (w4.setCell ⟨bo, 0, none⟩ (.slice (some ⟨g, 0, none⟩) (F.length + 1) gc)) (.slice (some ⟨g, 0, none⟩) (F.length + 1) gc) (F ++ [vs])) := Lib.hid (HK.out.put HXS.out HV2.out ((Below.refl _ _).alloc (Nat.le_refl _) _) (kr.alloc kr.size _) hg4 hn4 ho4); have t0 : w4.cell? ⟨bo, 0, none⟩ = some o := World.cell_grown hg4 (HK.out.later (kr.alloc kr.size _)).cell.1 HFR.out; have t1 : w4.frozen? ⟨bo, 0, none⟩ = false := World.frozen_grown hg4 (HK.out.later (kr.alloc kr.size _)).lt_size (HK.out.later (kr.alloc kr.size _)).cell.2 HFR.out; clear hn4 hg4 ho4 s0 s1 s2 s3))
      all_goals
        have F9 : Hid (FitPost H bo o F [vs] W (.returned (.tuple #[])) (w4.setCell ⟨bo, 0, none⟩ (.slice (some ⟨g, 0, none⟩) (F.length + 1) gc))) := Lib.hid ⟨rfl, _, P4.out.1, P4.out.2⟩
        clear t0 t1 c3 c4
        go_wp2_with fail
        exact bodyPost_ret (v := .tuple #[]) (by simp [results, Try.results68, go_sem]) rfl F9.out
    · have hc : fits (bl (varsOf p)) ((bl p).drop p.size) ((bl s).drop at_) vs = [] := by rw [hd, fits_nil_no (by rw [List.length_drop, bl_len]; omega)]
      rw [hc]
      have F := Lib.hid (FitPost.none hk (Below.refl _ _))
      clear hc hd hk hbx hv hap hfu hvs
      have q1 : ¬ (at_ : Int) = (s.size : Int) := by omega
      go_enter Try.func68, Try.ntmps68
      go_wp2_with fail
      exact bodyPost_ret (v := .tuple #[]) (by simp [results, Try.results68, go_sem]) rfl F.out
  | succ n ih =>
    intro i at_ vs a cap o F W hi hat hvl hfu hvs hv hap hk hbx hcn
    have hip : i < p.size := by omega
    have hv8 : vs.length ≤ 8 := by have := varsTo_size p i; omega
    have c1 := hbx.cp
    have c2 := hbx.cw
    have E := drop_at hip
    have hPl : ((bl p).drop i).length = p.size - i := by rw [List.length_drop, bl_len]
    have hSl : ((bl s).drop at_).length = s.size - at_ := by rw [List.length_drop, bl_len]
    have q3 : ¬ (i : Int) = (p.size : Int) := by omega
    by_cases hsh : s.size - at_ < p.size - i
    · have hc : fits (bl (varsOf p)) ((bl p).drop i) ((bl s).drop at_) vs = [] := fits_short _ _ _ _ hfu (by rw [hSl, hPl]; exact hsh)
      rw [hc]
      have F := Lib.hid (FitPost.none hk (Below.refl _ _))
      have q1 : (s.size : Int) - (at_ : Int) < (p.size : Int) - (i : Int) := by omega
      clear hc hk hbx hv hap hfu hvs E hPl hSl hvl hi ih hcn
      go_enter Try.func68, Try.ntmps68
      go_wp2_with fail
      exact bodyPost_ret (v := .tuple #[]) (by simp [results, Try.results68, go_sem]) rfl F.out
    have q1 : ¬ (s.size : Int) - (at_ : Int) < (p.size : Int) - (i : Int) := by omega
    have hats : at_ < s.size := by omega
    have ho := one_eq p i hip
    have c3 := hbx.cn
    have c4 := hbx.cf
    have HIX := Lib.hid (fun W' => Try.strings_Index_one (varsOf p) p[i] W')
    have IHG : Hid (∀ (at2 : Nat) (vs2 : List ByteArray) (a2 : Option Addr) (cap2 : Nat) (o2 : Value) (F2 : List (List ByteArray)) (W2 : World), at2 ≤ s.size → vs2.length = (varsTo p (i + 1)).size → Full vs2 → (∀ j, j < vs2.length → (nthS vs2 j).size ≤ 16) → StrsIn W2 a2 vs2 → Apart bo W2 o2 a2 → OutK H bo W2 o2 F2 → Bxs H bo bp bw bn bf p s W2 →
        F2.length + (fits (bl (varsOf p)) ((bl p).drop (i + 1)) ((bl s).drop at2) vs2).length ≤ 6975757441 →
        Calls Try.prog 68 #[.int .i64 ((i : Int) + 1), .int .i64 ((at2 : Nat) : Int), .slice a2 vs2.length cap2, .pointer (some ⟨bp, 0, none⟩), .pointer (some ⟨bw, 0, none⟩), .pointer (some ⟨bo, 0, none⟩), .pointer (some ⟨bn, 0, none⟩), .pointer (some ⟨bf, 0, none⟩)] W2 (FitPost H bo o2 F2 (fits (bl (varsOf p)) ((bl p).drop (i + 1)) ((bl s).drop at2) vs2) W2)) := Lib.hid (fun at2 vs2 a2 cap2 o2 F2 W2 h1 h2 h3 h4 h5 h6 h7 h8 h9 => by
      have := ih (i + 1) at2 vs2 a2 cap2 o2 F2 W2 (by omega) h1 h2 h3 h4 h5 h6 h7 h8 h9
      rw [show ((i + 1 : Nat) : Int) = (i : Int) + 1 by omega] at this
      exact this)
    have eg := enters_of Try.func68 (by kernel_rfl) rfl
    cases hvar : isVarB p[i]
    · obtain ⟨k1, k2⟩ := let_case hip hvar
      have k1' : Lib.indexByte (varsOf p).data.toList p[i] = -1 := k1
      rw [k1'] at HIX
      have hS := drop_at hats
      have hsz1 : (ByteArray.mk #[p[i]]).size = 1 := rfl
      have HHP := Lib.hid (fun W' => Try.strings_HasPrefix (s.extract at_ s.size) ⟨#[p[i]]⟩ W')
      have hpf : Lib.hasPrefix (s.extract at_ s.size).data.toList (ByteArray.mk #[p[i]]).data.toList = (p[i] == s[at_]) := by
        show List.isPrefixOf [p[i]] (bl (s.extract at_ s.size)) = _
        rw [bl_from, hS]; simp [List.isPrefixOf]
      rw [hpf] at HHP
      have q5 : (at_ : Int) ≤ (s.size : Int) := by omega
      cases hb : (p[i] == s[at_])
      · have hne : ¬ s[at_] = p[i] := fun e => by rw [e] at hb; simp at hb
        have hc : fits (bl (varsOf p)) ((bl p).drop i) ((bl s).drop at_) vs = [] := by rw [E, hS, fits_let_no hvar hne]
        rw [hc]
        have F := Lib.hid (FitPost.none hk (Below.refl _ _))
        rw [hb] at HHP
        clear hc hk hbx hv hap hfu hvs E hPl hSl hvl hi ih hcn hS hpf k1 k1' k2 IHG hvar hb hne
        go_enter Try.func68, Try.ntmps68
        go_wp2_with (first
          | (go_at_call 70; refine (HIX.out _).mono ?_; rintro e w' ⟨rfl, rfl⟩)
          | (go_at_call 71; refine (HHP.out _).mono ?_; rintro e w' ⟨rfl, rfl⟩))
        exact bodyPost_ret (v := .tuple #[]) (by simp [results, Try.results68, go_sem]) rfl F.out
      · have he : s[at_] = p[i] := by have := beq_iff_eq.1 hb; exact this.symm
        have hc : fits (bl (varsOf p)) ((bl p).drop i) ((bl s).drop at_) vs = fits (bl (varsOf p)) ((bl p).drop (i + 1)) ((bl s).drop (at_ + 1)) vs := by rw [E, hS, fits_let hvar he]
        rw [hc] at hcn ⊢
        have hC := IHG.out (at_ + 1) vs a cap o F W (by omega) (by rw [k2]; exact hvl) hfu hvs hv hap hk hbx hcn
        rw [show ((at_ + 1 : Nat) : Int) = (at_ : Int) + 1 by omega] at hC
        have HC := Lib.hid hC
        rw [hb] at HHP
        clear hc hk hbx hv hap hfu hvs E hPl hSl hvl hi ih hcn hS hpf k1 k1' k2 IHG hvar hb he hC
        go_enter Try.func68, Try.ntmps68
        go_wp2_with (first
          | (go_at_call 70; refine (HIX.out _).mono ?_; rintro e w' ⟨rfl, rfl⟩)
          | (go_at_call 71; refine (HHP.out _).mono ?_; rintro e w' ⟨rfl, rfl⟩))
        refine HC.out.mono ?_
        rintro e w2 hfp
        obtain rfl := hfp.ret
        have F := Lib.hid hfp
        clear hfp
        go_wp2_with fail
        exact bodyPost_ret (v := .tuple #[]) (by simp [results, Try.results68, go_sem]) rfl F.out
    · rcases var_cases hip hvar with ⟨k1, k2, k3⟩ | ⟨k1, k2⟩
      · obtain ⟨kn, hkn⟩ := Int.eq_ofNat_of_zero_le k1
        have hkn' : Lib.indexByte (varsOf p).data.toList p[i] = ((kn : Nat) : Int) := hkn
        rw [hkn'] at HIX
        have hkv : kn < vs.length := by rw [hvl]; omega
        have hnp : npos (bl (varsOf p)) p[i] = kn := by unfold npos; rw [hkn]; simp
        have hz := hvs kn hkv
        have hvf := hfu kn hkv
        have hcell : ∃ b off, a = some ⟨b, off, none⟩ ∧ W.cell? ⟨b, off + kn, none⟩ = some (.string (nthS vs kn)) := by
          rcases hv with h | ⟨b, off, ha, hc⟩
          · have : vs = [] := by simpa using h
            subst this; simp at hkv
          · exact ⟨b, off, ha, by rw [hc kn (by simpa using hkv), List.getElem_map, nthS_lt hkv]⟩
        obtain ⟨b, off, rfl, hcv⟩ := hcell
        have HHP := Lib.hid (fun W' => Try.strings_HasPrefix (s.extract at_ s.size) (nthS vs kn) W')
        have hpf : Lib.hasPrefix (s.extract at_ s.size).data.toList (nthS vs kn).data.toList = (bl (nthS vs kn)).isPrefixOf ((bl s).drop at_) := by
          rw [← bl_from]; rfl
        rw [hpf] at HHP
        have q5 : (at_ : Int) ≤ (s.size : Int) := by omega
        have q6 : ¬ ((kn : Nat) : Int) = (vs.length : Int) := by omega
        cases hb : (bl (nthS vs kn)).isPrefixOf ((bl s).drop at_)
        · have hc : fits (bl (varsOf p)) ((bl p).drop i) ((bl s).drop at_) vs = [] := by rw [E, fits_old_no hvar (by rw [hnp]; exact hkv) (by rw [hnp]; exact hb)]
          rw [hc]
          have F := Lib.hid (FitPost.none hk (Below.refl _ _))
          rw [hb] at HHP
          generalize nthS vs kn = v at *
          clear hc hk hbx hv hap hfu hvs E hPl hSl hvl hi ih hcn hpf k1 hkn hkn' k2 k3 IHG hvar hb hnp
          go_enter Try.func68, Try.ntmps68
          go_wp2_with (first
            | (go_at_call 70; refine (HIX.out _).mono ?_; rintro e w' ⟨rfl, rfl⟩)
            | (go_at_call 71; refine (HHP.out _).mono ?_; rintro e w' ⟨rfl, rfl⟩))
          exact bodyPost_ret (v := .tuple #[]) (by simp [results, Try.results68, go_sem]) rfl F.out
        · have hvl2 := (List.isPrefixOf_iff_prefix.1 hb).length_le
          rw [bl_len, hSl] at hvl2
          have hc : fits (bl (varsOf p)) ((bl p).drop i) ((bl s).drop at_) vs = fits (bl (varsOf p)) ((bl p).drop (i + 1)) ((bl s).drop (at_ + (nthS vs kn).size)) vs := by
            rw [E, fits_old hvar (by rw [hnp]; exact hkv) (by rw [hnp]; exact hb), hnp, List.drop_drop]
          rw [hc] at hcn ⊢
          have hC := IHG.out (at_ + (nthS vs kn).size) vs _ cap o F W (by omega) (by rw [k3]; exact hvl) hfu hvs hv hap hk hbx hcn
          rw [show ((at_ + (nthS vs kn).size : Nat) : Int) = (at_ : Int) + ((nthS vs kn).size : Int) by omega] at hC
          have HC := Lib.hid hC
          rw [hb] at HHP
          clear hc hk hbx hv hap hfu hvs E hPl hSl hvl hi ih hcn hpf k1 hkn hkn' k2 k3 IHG hvar hb hnp hC
          generalize nthS vs kn = v at *
          go_enter Try.func68, Try.ntmps68
          go_wp2_with (first
            | (go_at_call 70; refine (HIX.out _).mono ?_; rintro e w' ⟨rfl, rfl⟩)
            | (go_at_call 71; refine (HHP.out _).mono ?_; rintro e w' ⟨rfl, rfl⟩))
          refine HC.out.mono ?_
          rintro e w2 hfp
          obtain rfl := hfp.ret
          have F := Lib.hid hfp
          clear hfp
          go_wp2_with fail
          exact bodyPost_ret (v := .tuple #[]) (by simp [results, Try.results68, go_sem]) rfl F.out
      · have hkn' : Lib.indexByte (varsOf p).data.toList p[i] = ((vs.length : Nat) : Int) := by rw [hvl]; exact k1
        rw [hkn'] at HIX
        have hnp : npos (bl (varsOf p)) p[i] = vs.length := by
          have e : Lib.indexByte (bl (varsOf p)) p[i] = ((vs.length : Nat) : Int) := hkn'
          unfold npos; rw [e]; simp
        have hc : fits (bl (varsOf p)) ((bl p).drop i) ((bl s).drop at_) vs = fitsTo (bl (varsOf p)) ((bl p).drop (i + 1)) ((bl s).drop at_) vs (s.size - at_) := by
          rw [E, fits_new hvar (by rw [hnp]; omega), hSl]
        rw [hc] at hcn ⊢
        have HK := Lib.hid hk
        have HBX := Lib.hid hbx
        have HV := Lib.hid hv
        have HAP := Lib.hid hap
        have HFU := Lib.hid hfu
        have HVS := Lib.hid hvs
        have HK2 : Hid ((varsTo p (i + 1)).size = vs.length + 1) := Lib.hid (by rw [k2, hvl])
        have HCN := Lib.hid hcn
        have hq1 : IntKind.i64.wrap ((i : Int) + 1) = (i : Int) + 1 := IntWalk.i64_in _ (by omega)
        have HQ1 := Lib.hid hq1
        clear hc hk hbx hv hap hfu hvs E hPl hSl hvl hi ih hcn k1 hkn' k2 hvar hnp hq1
        go_enter Try.func68, Try.ntmps68
        go_wp2_with (go_at_call 70; refine (HIX.out _).mono ?_; rintro e w' ⟨rfl, hw9⟩; obtain rfl := hw9.symm)
        go_loopw [13] (fun e wr => ∃ (m : Nat) (o2 : Value), at_ + 1 ≤ m ∧ m ≤ s.size + 1 ∧ e = .int .i64 ((m : Nat) : Int) ∧ FitRel bo W wr o o2 ∧ OutK H bo wr o2 (F ++ fitsTo (bl (varsOf p)) ((bl p).drop (i + 1)) ((bl s).drop at_) vs (m - at_ - 1))) (fun e _ => s.size + 1 - (intOf e).toNat)
        case atStart => exact ⟨at_ + 1, o, Nat.le_refl _, by omega, by go_num, FitRel.refl _ _ _, by rw [show at_ + 1 - at_ - 1 = 0 by omega, fitsTo_zero, List.append_nil]; exact HK.out⟩
        case round =>
          obtain ⟨m, o2, hm1, hm2, rfl, hrel2, hk2⟩ := hrel
          have HR2 := Lib.hid hrel2
          have HKr := Lib.hid hk2
          have HB2 := Lib.hid (HBX.out.rel HK.out hrel2)
          have r2 := HB2.out.cw
          have r4 := HB2.out.cf
          clear hrel2 hk2
          by_cases hlt : m ≤ s.size
          · have HCl := Lib.hid (fun W' (hb : Below _ _ W') => cloneS_any vs a cap W' ((HAP.out.strs HR2.out HV.out).later hb) (by omega))
            have hs1 : (0 : Int) ≤ (at_ : Int) := by omega
            have hs2 : (at_ : Int) ≤ (m : Int) := by omega
            have hs3 : (m : Int) ≤ (s.size : Int) := by omega
            have hs4 : (0 : Int) ≤ (m : Int) := by omega
            have N1 : Hid (∀ u ∈ [Value.string (s.extract at_ m)], u.oneCell' = true) := Lib.hid (fun u hu => by rw [List.mem_singleton.1 hu]; rfl)
            have N3 : Hid (vs.length + 1 ≤ maxLen) := Lib.hid (by unfold maxLen; omega)
            have N4 : Hid ((vs.length + 1) * 16 ≤ 140737488355328) := Lib.hid (by omega)
            have hxs : (s.extract at_ m).size = m - at_ := by rw [ByteArray.size_extract]; omega
            have HFU2 : Hid (Full (vs ++ [s.extract at_ m])) := Lib.hid (HFU.out.snoc (by rw [hxs]; omega))
            have HVS2 : Hid (∀ j, j < (vs ++ [s.extract at_ m]).length → (nthS (vs ++ [s.extract at_ m]) j).size ≤ 16) := Lib.hid (fun j hj => by
              unfold nthS
              rw [List.length_append] at hj
              by_cases hlt : j < vs.length
              · have h3 := HVS.out j hlt
                unfold nthS at h3
                rw [List.getD_eq_getElem?_getD] at h3 ⊢
                rw [List.getElem?_append_left hlt]; exact h3
              · have : j = vs.length := by simp at hj; omega
                subst this
                rw [List.getD_eq_getElem?_getD, List.getElem?_append_right (Nat.le_refl _)]
                simp only [Nat.sub_self, List.getElem?_cons_zero, Option.getD_some]
                rw [hxs]; omega)
            have hx1 : tx (((bl s).drop at_).take (m - at_ - 1 + 1)) = s.extract at_ m := by
              rw [← tx_bl (s.extract at_ m)]
              congr 1
              have : bl (s.extract at_ m) = ((bl s).drop at_).take (m - at_) := by simp [bl]
              rw [this, show m - at_ - 1 + 1 = m - at_ by omega]
            have HG : Hid (fitsTo (bl (varsOf p)) ((bl p).drop (i + 1)) ((bl s).drop at_) vs (m + 1 - at_ - 1) = fitsTo (bl (varsOf p)) ((bl p).drop (i + 1)) ((bl s).drop at_) vs (m - at_ - 1) ++ fits (bl (varsOf p)) ((bl p).drop (i + 1)) ((bl s).drop m) (vs ++ [s.extract at_ m])) := Lib.hid (by
              rw [show m + 1 - at_ - 1 = m - at_ - 1 + 1 by omega, fitsTo_succ, hx1, List.drop_drop, show at_ + (m - at_ - 1 + 1) = m by omega])
            have HCB : Hid ((F ++ fitsTo (bl (varsOf p)) ((bl p).drop (i + 1)) ((bl s).drop at_) vs (m - at_ - 1)).length + (fits (bl (varsOf p)) ((bl p).drop (i + 1)) ((bl s).drop m) (vs ++ [s.extract at_ m])).length ≤ 6975757441) := Lib.hid (by
              obtain ⟨t, ht⟩ := fitsTo_pre (bl (varsOf p)) ((bl p).drop (i + 1)) ((bl s).drop at_) vs (n := m + 1 - at_ - 1) (m := s.size - at_) (by omega)
              have h1 := HCN.out
              rw [ht, HG.out, List.length_append, List.length_append] at h1
              rw [List.length_append]
              omega)
            have HLn : Hid ((vs ++ [s.extract at_ m]).length = vs.length + 1) := Lib.hid (by simp)
            have IHF : Hid (∀ (g5 c5 : Nat) (W2 : World), Below wr.heap.size wr W2 → StrsIn W2 (some ⟨g5, 0, none⟩) (vs ++ [s.extract at_ m]) → wr.heap.size ≤ g5 → g5 < W2.heap.size →
                Calls Try.prog 68 #[.int .i64 ((i : Int) + 1), .int .i64 ((m : Nat) : Int), .slice (some ⟨g5, 0, none⟩) (vs.length + 1) c5, .pointer (some ⟨bp, 0, none⟩), .pointer (some ⟨bw, 0, none⟩), .pointer (some ⟨bo, 0, none⟩), .pointer (some ⟨bn, 0, none⟩), .pointer (some ⟨bf, 0, none⟩)] W2 (FitPost H bo o2 (F ++ fitsTo (bl (varsOf p)) ((bl p).drop (i + 1)) ((bl s).drop at_) vs (m - at_ - 1)) (fits (bl (varsOf p)) ((bl p).drop (i + 1)) ((bl s).drop m) (vs ++ [s.extract at_ m])) W2)) := Lib.hid (fun g5 c5 W2 hb hst hg hg2 => by
              have h1 := IHG.out m (vs ++ [s.extract at_ m]) (some ⟨g5, 0, none⟩) c5 o2 _ W2 hlt (by rw [HLn.out, HK2.out]) HFU2.out HVS2.out hst (fun x hx => by
                obtain rfl := Option.some.inj hx
                refine ⟨?_, fun e => ?_, hg2⟩
                · have := HKr.out.lt_size; show g5 ≠ bo; omega
                · obtain ⟨ys, hy, _⟩ := HKr.out.row
                  have := (hy.lt g5 e).2; omega) (HKr.out.later hb) (HB2.out.rel HKr.out (FitRel.of_below hb)) HCB.out
              rw [HLn.out] at h1
              exact h1)
            have kr := Below.refl wr.heap.size wr
            replace hq1 := HQ1.out
            go_wp2_with fail
            go_region_held3 (fun w' => w'.cell? ⟨bf, 0, none⟩ = some (.func (.func 68) #[] #[.pointer (some ⟨bp, 0, none⟩), .pointer (some ⟨bw, 0, none⟩), .pointer (some ⟨bo, 0, none⟩), .pointer (some ⟨bn, 0, none⟩), .pointer (some ⟨bf, 0, none⟩)]) ∧ w'.cell? ⟨bw, 0, none⟩ = some (.string s)) (go_keep) (first
              | (go_at_call 69; refine (HCl.out _ (by repeat (first | exact kr | refine Below.drew ?_ | refine below_drewN ?_ _ | refine Below.alloc ?_ (by have := kr.size; simp; try omega) _))).mono ?_; rintro e w2 ⟨v2, rfl, hb2⟩; have KB := Lib.hid hb2.2; replace kr : Below wr.heap.size wr w2 := Below.now (by repeat (first | exact kr | refine Below.drew ?_ | refine below_drewN ?_ _ | refine Below.alloc ?_ (by have := kr.size; simp; try omega) _)) hb2.2; have H2 : Hid (w2.ownsRow wr.heap.size 9 1 v2 vs.length (strVals vs)) := Lib.hid (owns_mono hb2.1 (by simp)); have s0 : w2.cell? ⟨bf, 0, none⟩ = some (.func (.func 68) #[] #[.pointer (some ⟨bp, 0, none⟩), .pointer (some ⟨bw, 0, none⟩), .pointer (some ⟨bo, 0, none⟩), .pointer (some ⟨bn, 0, none⟩), .pointer (some ⟨bf, 0, none⟩)]) := (HB2.out.rel HKr.out (FitRel.of_below kr)).cf; have s1 : w2.cell? ⟨bw, 0, none⟩ = some (.string s) := (HB2.out.rel HKr.out (FitRel.of_below kr)).cw; clear hb2)
              | (refine step_appM (w := wr) rfl (.tmp 61) (.tmp 66) (by rfl) Try.underlying33 Try.infoStr rfl (by decide) (by rfl) (Bld.later (w := wr) ⟨H2.out, kr⟩ ((Below.refl _ _).alloc (Nat.le_refl _) _)) (by rfl) (src_at (T := 9) (alloc_new _ _)) (by rfl) N1.out N3.out N4.out ?_; intro v67 w67 hb67 hg67 ho67; obtain ⟨g5, c5, hv5⟩ := owns_someS hb67.1 (by omega); subst hv5; have H67 : Hid (Bld 9 1 wr w67 (.slice (some ⟨g5, 0, none⟩) (vs.length + 1) c5) (vs.length + 1) (strVals vs ++ [.string (s.extract at_ m)])) := Lib.hid hb67; have s2 : w67.cell? ⟨bf, 0, none⟩ = some (.func (.func 68) #[] #[.pointer (some ⟨bp, 0, none⟩), .pointer (some ⟨bw, 0, none⟩), .pointer (some ⟨bo, 0, none⟩), .pointer (some ⟨bn, 0, none⟩), .pointer (some ⟨bf, 0, none⟩)]) := (HB2.out.rel HKr.out (FitRel.of_below hb67.2)).cf; have s3 : w67.cell? ⟨bw, 0, none⟩ = some (.string s) := (HB2.out.rel HKr.out (FitRel.of_below hb67.2)).cw; have HI := Lib.hid (IHF.out g5 c5 w67 H67.out.2 (strsIn_app H67.out.1) (H67.out.1.lt g5 rfl).1 (H67.out.1.lt g5 rfl).2); clear hb67 hg67 ho67 s0 s1 kr KB)
              | (refine step_appM (w := wr) rfl (.tmp 61) (.tmp 66) (by rfl) Try.underlying33 Try.infoStr rfl (by decide) (by rfl) (show Bld 9 1 wr w2 v2 vs.length (strVals vs) from ⟨H2.out, kr⟩) (by rfl) (Src.later (w := (wr.alloc (.cells #[.string (s.extract at_ m)] 9)).drew) (src_at (T := 9) (alloc_new wr _)) KB.out) (by rfl) N1.out N3.out N4.out ?_; intro v67 w67 hb67 hg67 ho67; obtain ⟨g5, c5, hv5⟩ := owns_someS hb67.1 (by omega); subst hv5; have H67 : Hid (Bld 9 1 wr w67 (.slice (some ⟨g5, 0, none⟩) (vs.length + 1) c5) (vs.length + 1) (strVals vs ++ [.string (s.extract at_ m)])) := Lib.hid hb67; have s2 : w67.cell? ⟨bf, 0, none⟩ = some (.func (.func 68) #[] #[.pointer (some ⟨bp, 0, none⟩), .pointer (some ⟨bw, 0, none⟩), .pointer (some ⟨bo, 0, none⟩), .pointer (some ⟨bn, 0, none⟩), .pointer (some ⟨bf, 0, none⟩)]) := (HB2.out.rel HKr.out (FitRel.of_below hb67.2)).cf; have s3 : w67.cell? ⟨bw, 0, none⟩ = some (.string s) := (HB2.out.rel HKr.out (FitRel.of_below hb67.2)).cw; have HI := Lib.hid (IHF.out g5 c5 w67 H67.out.2 (strsIn_app H67.out.1) (H67.out.1.lt g5 rfl).1 (H67.out.1.lt g5 rfl).2); clear hb67 hg67 ho67 s0 s1 kr KB)
              | (go_at_call 68; (with_reducible refine HI.out.mono ?_); rintro e w8 hfp; have P8 : Hid (FitPost H bo o2 (F ++ fitsTo (bl (varsOf p)) ((bl p).drop (i + 1)) ((bl s).drop at_) vs (m - at_ - 1)) (fits (bl (varsOf p)) ((bl p).drop (i + 1)) ((bl s).drop m) (vs ++ [s.extract at_ m])) w67 e w8) := Lib.hid hfp; have he := hfp.ret; subst he; have s4 : w8.cell? ⟨bf, 0, none⟩ = some (.func (.func 68) #[] #[.pointer (some ⟨bp, 0, none⟩), .pointer (some ⟨bw, 0, none⟩), .pointer (some ⟨bo, 0, none⟩), .pointer (some ⟨bn, 0, none⟩), .pointer (some ⟨bf, 0, none⟩)]) := (postB HB2.out HKr.out H67.out.2 hfp).cf; have s5 : w8.cell? ⟨bw, 0, none⟩ = some (.string s) := (postB HB2.out HKr.out H67.out.2 hfp).cw; clear hfp s2 s3))
            all_goals
              obtain ⟨_, o8, hr8, hk8⟩ := P8.out
              have HR8 : Hid (FitRel bo W w8 o o8) := Lib.hid (HR2.out.trans ((FitRel.of_below H67.out.2).trans hr8))
              have HK8 : Hid (OutK H bo w8 o8 (F ++ fitsTo (bl (varsOf p)) ((bl p).drop (i + 1)) ((bl s).drop at_) vs (m + 1 - at_ - 1))) := Lib.hid (by rw [HG.out, ← List.append_assoc]; exact hk8)
              clear hr8 hk8 hq1 s4 s5
              go_wp2_with fail
              go_roundw
              case rel => exact ⟨m + 1, o8, by omega, by omega, by go_num, HR8.out, HK8.out⟩
              case measure => simp [intOf]; omega
          · obtain rfl : m = s.size + 1 := by omega
            have F9 : Hid (FitPost H bo o F (fitsTo (bl (varsOf p)) ((bl p).drop (i + 1)) ((bl s).drop at_) vs (s.size - at_)) W (.returned (.tuple #[])) wr) := Lib.hid (by
              have h1 := HKr.out
              rw [show s.size + 1 - at_ - 1 = s.size - at_ by omega] at h1
              exact ⟨rfl, o2, HR2.out, h1⟩)
            go_wp2_with fail
            exact bodyPost_ret (v := .tuple #[]) (by simp [results, Try.results68, go_sem]) rfl F9.out
end Go.Proofs.Ytnnboeeogbgmdaa
