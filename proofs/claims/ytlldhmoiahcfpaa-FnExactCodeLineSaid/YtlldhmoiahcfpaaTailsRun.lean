/-
  The run of the sets of tails at a list of words: plain data; slices of slices of strings.
-/
import Derived.Test.YtlldhmoiahcfpaaSetNext
import Derived.Test.YtlldhmoiahcfpaaTailsPl
namespace Go.Proofs.Ytlldhmoiahcfpaa
open Go.RowKit
set_option linter.unusedVariables false
/-- the first set -/
def setF (l S : List ByteArray) : Prop := SortedS S ∧ ∀ u, u ∈ S ↔ firstM l u
/-- the set behind X -/
def setN (l X S : List ByteArray) : Prop := SortedS S ∧ ∀ u, u ∈ S ↔ nextM l X u
theorem setF_uniq {l S S' : List ByteArray} (h : setF l S) (h' : setF l S') : S = S' := h.1.ext h'.1 (fun u => (h.2 u).trans (h'.2 u).symm)
theorem setN_uniq {l X S S' : List ByteArray} (h : setN l X S) (h' : setN l X S') : S = S' := h.1.ext h'.1 (fun u => (h.2 u).trans (h'.2 u).symm)
/-- the sets out (the last one first), each fresh -/
def FreshT (l : List ByteArray) (out : List (List ByteArray)) : Prop := freshB (setF l) (setN l) out
def ComesT (l : List ByteArray) (out : List (List ByteArray)) (S : List ByteArray) : Prop := comesB (setF l) (setN l) out S
/-- the run is over -/
def EndsT (l : List ByteArray) (out : List (List ByteArray)) (S : List ByteArray) : Prop := endsB (setF l) (setN l) out S
theorem comesT_suf {l : List ByteArray} (hok : LOk l) : ∀ {out : List (List ByteArray)} {S : List ByteArray}, FreshT l out → ComesT l out S → SortedS S ∧ ∀ u ∈ S, sufP l u
  | [], S, _, h => ⟨h.1, fun u hu => firstM_suf hok.w1 ((h.2 u).1 hu)⟩
  | X :: out, S, hf, h => by
    have hX := comesT_suf hok hf.1 h.1
    exact ⟨h.2.1, fun u hu => nextM_suf hok.w1 hX.2 ((h.2.2 u).1 hu)⟩
theorem freshT_all {l : List ByteArray} (hok : LOk l) : ∀ {out : List (List ByteArray)}, FreshT l out → out.Nodup ∧ ∀ X ∈ out, SortedS X ∧ ∀ u ∈ X, sufP l u
  | [], _ => ⟨List.nodup_nil, fun X h => by cases h⟩
  | X :: out, hf => by
    have ih := freshT_all hok hf.1
    refine ⟨List.nodup_cons.2 ⟨hf.2.2.2, ih.1⟩, fun Y hY => ?_⟩
    rcases List.mem_cons.1 hY with rfl | hY
    · exact comesT_suf hok hf.1 hf.2.1
    · exact ih.2 Y hY
theorem two41 {n : Nat} (h : n ≤ 41) : 2 ^ n ≤ 2199023255552 := Nat.le_trans (Nat.pow_le_pow_right (by omega) h) (by decide)
theorem freshT_len {l : List ByteArray} (hok : LOk l) {out : List (List ByteArray)} (hf : FreshT l out) : out.length ≤ 2199023255552 := by
  obtain ⟨h1, h2⟩ := freshT_all hok hf
  have h3 := sets_bound (U := uniW l) h1 (fun X hX u hu => sufP_uni ((h2 X hX).2 u hu)) (fun X hX Y hY he => (h2 X hX).1.ext (h2 Y hY).1 he)
  exact Nat.le_trans h3 (two41 (uniW_len hok.hi hok.w6))
theorem endsT_uniq {l : List ByteArray} {out out' : List (List ByteArray)} {S S' : List ByteArray} (h : FreshT l out) (h' : FreshT l out') (he : EndsT l out S) (he' : EndsT l out' S') : out = out' :=
  ends_uniq (F := setF l) (N := setN l) (fun _ _ a b => setF_uniq a b) (fun _ _ _ a b => setN_uniq a b) h h' he he'
/-- the list at a place -/
def nthL (L : List (List ByteArray)) (i : Nat) : List ByteArray := L.getD i []
theorem nthL_lt {L : List (List ByteArray)} {i : Nat} (h : i < L.length) : nthL L i = L[i] := by simp [nthL, List.getD_eq_getElem?_getD, h]
theorem mem_nthL {L : List (List ByteArray)} {X : List ByteArray} (h : X ∈ L) : ∃ i, i < L.length ∧ nthL L i = X := by
  obtain ⟨i, hi, he⟩ := List.getElem_of_mem h
  exact ⟨i, hi, by rw [nthL_lt hi, he]⟩
theorem nthL_mem {L : List (List ByteArray)} {i : Nat} (h : i < L.length) : nthL L i ∈ L := by rw [nthL_lt h]; exact List.getElem_mem h
/-- cells that hold slices of strings -/
def SetsIn (w : World) (ok : Nat → Prop) (vs : List Value) (L : List (List ByteArray)) : Prop := vs.length = L.length ∧ ∀ i, i < L.length → ∃ ad cap, vs[i]? = some (.slice (some ad) (nthL L i).length cap) ∧ StrsIn w (some ad) (nthL L i) ∧ (nthL L i).length ≤ cap ∧ ok ad.block
theorem SetsIn.later {w w' : World} {ok : Nat → Prop} {vs : List Value} {L : List (List ByteArray)} (h : SetsIn w ok vs L) (hb : Below w.heap.size w w') : SetsIn w' ok vs L :=
  ⟨h.1, fun i hi => by obtain ⟨ad, cap, h1, h2, h3⟩ := h.2 i hi; exact ⟨ad, cap, h1, h2.later hb, h3⟩⟩
theorem StrsIn.grownR {w w' : World} {r : Option Nat} {ad : Addr} {l : List ByteArray} (h : StrsIn w (some ad) l) (hg : w.grownBy w' r) (hne : some ad.block ≠ r) : StrsIn w' (some ad) l := by
  rcases h with h | ⟨b, off, ha, hc⟩
  · exact .inl h
  · refine .inr ⟨b, off, ha, fun i hi => ?_⟩
    have h1 := hc i hi
    obtain rfl := Option.some.inj ha
    have h2 := World.block_lt_of_cell? w _ h1
    rw [World.cell?_of_block (hg.block b h2 hne)]
    exact h1
theorem SetsIn.grown {w w' : World} {ok ok' : Nat → Prop} {r : Option Nat} {vs : List Value} {L : List (List ByteArray)} (h : SetsIn w ok vs L) (hg : w.grownBy w' r) (hne : ∀ b, ok b → some b ≠ r ∧ ok' b) : SetsIn w' ok' vs L :=
  ⟨h.1, fun i hi => by obtain ⟨ad, cap, h1, h2, h3, h4⟩ := h.2 i hi; exact ⟨ad, cap, h1, h2.grownR hg (hne _ h4).1, h3, (hne _ h4).2⟩⟩
theorem SetsIn.weak {w : World} {ok ok' : Nat → Prop} {vs : List Value} {L : List (List ByteArray)} (h : SetsIn w ok vs L) (hne : ∀ b, ok b → ok' b) : SetsIn w ok' vs L :=
  ⟨h.1, fun i hi => by obtain ⟨ad, cap, h1, h2, h3, h4⟩ := h.2 i hi; exact ⟨ad, cap, h1, h2, h3, hne _ h4⟩⟩
theorem SetsIn.nil (w : World) (ok : Nat → Prop) : SetsIn w ok [] [] := ⟨rfl, fun i h => absurd h (Nat.not_lt_zero _)⟩
theorem SetsIn.push {w : World} {ok : Nat → Prop} {vs : List Value} {L : List (List ByteArray)} (h : SetsIn w ok vs L) {X : List ByteArray} {ad : Addr} {cap : Nat} (hX : StrsIn w (some ad) X) (hc : X.length ≤ cap) (hk : ok ad.block) : SetsIn w ok (vs ++ [.slice (some ad) X.length cap]) (L ++ [X]) := by
  refine ⟨by simp [h.1], fun i hi => ?_⟩
  by_cases e : i < L.length
  · obtain ⟨ad', cap', h1, h2, h3⟩ := h.2 i e
    have e1 : nthL (L ++ [X]) i = nthL L i := by rw [nthL_lt hi, nthL_lt e, List.getElem_append_left e]
    rw [e1]
    exact ⟨ad', cap', by rw [List.getElem?_append_left (by rw [h.1]; exact e)]; exact h1, h2, h3⟩
  · have ei : i = L.length := by rw [List.length_append, List.length_singleton] at hi; omega
    subst ei
    have e1 : nthL (L ++ [X]) L.length = X := by rw [nthL_lt hi]; simp
    rw [e1]
    exact ⟨ad, cap, by rw [← h.1]; simp, hX, hc, hk⟩
theorem SetsIn.one {w : World} {ok : Nat → Prop} {vs : List Value} {L : List (List ByteArray)} (h : SetsIn w ok vs L) : ∀ u ∈ vs, u.oneCell' = true := fun u hu => by
  obtain ⟨i, hi, rfl⟩ := List.getElem_of_mem hu
  obtain ⟨ad, cap, h1, _⟩ := h.2 i (by rw [← h.1]; exact hi)
  rw [List.getElem?_eq_getElem hi] at h1
  rw [Option.some.inj h1]; rfl
/-- what TailsOf hands back -/
def RetTails (l : List ByteArray) (w : World) (e : Ending) (w' : World) : Prop :=
  (¬ listP l ∧ e = .returned (.slice none 0 0) ∧ Below w.heap.size w w') ∨
  (listP l ∧ ∃ out S vs a cap, FreshT l out ∧ EndsT l out S ∧ SetsIn w' (fun _ => True) vs out.reverse ∧ e = .returned (.slice a out.length cap) ∧ w'.ownsRow w.heap.size 22 1 (.slice a out.length cap) out.length vs ∧ Below w.heap.size w w')
/-- no word has two readings: the words of no set are empty -/
def codeP (l : List ByteArray) : Prop := listP l ∧ ∃ out S, FreshT l out ∧ EndsT l out S ∧ ∀ X ∈ out, ¬ (⟨#[]⟩ : ByteArray) ∈ X
theorem codeP_of {l : List ByteArray} {out : List (List ByteArray)} {S : List ByteArray} (hl : listP l) (h1 : FreshT l out) (h2 : EndsT l out S) : codeP l ↔ ∀ X ∈ out, ¬ (⟨#[]⟩ : ByteArray) ∈ X := by
  constructor
  · rintro ⟨_, out', S', h3, h4, h5⟩
    have := endsT_uniq h1 h3 h2 h4
    subst this
    exact h5
  · intro h; exact ⟨hl, out, S, h1, h2, h⟩
theorem Try.infoStrs : (Try.prog.info? 22).map (fun i => (i.zero, i.size, i.bytes)) = some (some (.slice none 0 0), 1, 24) := by kernel_rfl
/-- the length of a slice's value -/
def lenOf : Value → Nat
  | .slice _ n _ => n
  | _ => 0
set_option maxHeartbeats 1000000 in
theorem l22Same_any (x y : List ByteArray) (a a2 : Option Addr) (cap cap2 : Nat) (w : World) (hx : StrsIn w a x) (hy : StrsIn w a2 y) (hlx : x.length ≤ 2 ^ 40) (hly : y.length ≤ 2 ^ 40) :
    Calls Try.prog 33 #[.slice a x.length cap, .slice a2 y.length cap2] w (RetP (x = y) w) := by
  have HX := Lib.hid hx
  have HY := Lib.hid hy
  clear hx hy
  by_cases hlen : x.length = y.length
  · have n1 := neq_nat hlen
    have n2 : ((x.length : Int) == (y.length : Int)) = true := by simp [hlen]
    have hxy : y.length ≤ x.length := by omega
    have hyx : x.length ≤ y.length := by omega
    have HLE := Lib.hid hlen
    clear hlen
    go_enter Try.func33, Try.ntmps33
    go_wp2_with fail
    go_loopw [14] (fun i wr => ∃ j : Nat, j ≤ x.length ∧ i = .int .i64 (j : Nat) ∧ Hid (∀ j', j' < j → nthS x j' = nthS y j') ∧ wr = w) (fun i _ => x.length - (intOf i).toNat)
    case atStart => exact ⟨0, Nat.zero_le _, rfl, Lib.hid (fun j' h => absurd h (Nat.not_lt_zero _)), rfl⟩
    case round =>
      obtain ⟨j, hj, rfl, hall, rfl⟩ := hrel
      by_cases hlt : j < x.length
      · have hlt2 : j < y.length := by omega
        obtain ⟨b, off, rfl, hb, hc⟩ := HX.out.cell hlt
        obtain ⟨b2, off2, rfl, hb2, hc2⟩ := HY.out.cell hlt2
        have c1 := hc j hlt
        have c2 := hc2 j hlt2
        have HNO : Hid (nthS x j ≠ nthS y j → ¬ x = y) := Lib.hid (fun h h2 => h (by rw [h2]))
        have HYE : Hid (nthS x j = nthS y j → ∀ j', j' < j + 1 → nthS x j' = nthS y j') := Lib.hid (fun h j' hj' => by
          by_cases e : j' = j
          · rw [e]; exact h
          · exact hall.out j' (by omega))
        clear hc hc2
        generalize nthS x j = u at *
        generalize nthS y j = v at *
        cases hq : (u.toList == v.toList)
        · have F := Lib.hid (HNO.out (fun h => by rw [bytes_eq.2 h] at hq; cases hq))
          go_wp2_with fail
          go_ret
          exact RetP.no F.out (Below.refl _ _)
        · have F := Lib.hid (HYE.out (bytes_eq.1 hq))
          go_wp2_with fail
          go_roundw
          case rel => exact ⟨j + 1, by omega, by go_num, F, trivial⟩
          case measure => simp [intOf]; omega
      · have F : Hid (x = y) := Lib.hid (List.ext_getElem HLE.out (fun i h1 h2 => by
          have := hall.out i (by omega)
          rwa [nthS_lt h1, nthS_lt h2] at this))
        go_wp2_with fail
        go_ret
        exact RetP.yes F.out (Below.refl _ _)
  · have F : Hid (¬ x = y) := Lib.hid (fun h => hlen (by rw [h]))
    have n1 := neq_nat' hlen
    have n2 := eq_nat' hlen
    clear hlen
    go_enter Try.func33, Try.ntmps33
    go_wp2_with fail
    go_ret
    exact RetP.no F.out (Below.refl _ _)
end Go.Proofs.Ytlldhmoiahcfpaa
