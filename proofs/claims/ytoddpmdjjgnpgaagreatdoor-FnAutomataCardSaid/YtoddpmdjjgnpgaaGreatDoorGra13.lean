/-
  Lists of integers as cells, and lists of the numbers with a property.
-/
import Derived.Test.YtoddpmdjjgnpgaaGreatDoorGra01
import Derived.Test.YtoddpmdjjgnpgaaGreatDoorGra05
import Derived.Shelf.Abstract
import Derived.Test.YtoddpmdjjgnpgaaGreatDoorGra03
import Derived.Test.YtoddpmdjjgnpgaaGreatDoorGra04
import Derived.Test.YtoddpmdjjgnpgaaGreatDoorGra10
import Derived.Test.YtoddpmdjjgnpgaaGreatDoorGra11
namespace Go.Proofs.YtoddpmdjjgnpgaaGreatDoor
set_option linter.unusedVariables false
open Classical
abbrev Lang := List Nat → Prop
/-- what is left behind a letter -/
def dvL (D : Lang) (x : Nat) : Lang := fun w => D (x :: w)
def DeadL (D : Lang) : Prop := ∀ w, ¬ D w
/-- the number at a place of the table of an automaton with k letters -/
def nxI (k : Nat) (N : List Int) (s x : Nat) : Int := N.getD (s * k + x) (-1)
/-- the words that are accepted from a state -/
def accA (k : Nat) (N : List Int) (F : List Bool) : Nat → List Nat → Prop
  | s, [] => F.getD s false = true
  | s, x :: w => x < k ∧ 0 ≤ nxI k N s x ∧ accA k N F (nxI k N s x).toNat w
theorem accA_dv {k : Nat} {N : List Int} {F : List Bool} {s x : Nat} (hx : x < k) (h : 0 ≤ nxI k N s x) : dvL (accA k N F s) x = accA k N F (nxI k N s x).toNat := by
  funext w
  unfold dvL
  rw [accA]
  exact propext ⟨fun h => h.2.2, fun h2 => ⟨hx, h, h2⟩⟩
theorem accA_dead {k : Nat} {N : List Int} {F : List Bool} {s x : Nat} (h : nxI k N s x < 0) : DeadL (dvL (accA k N F s) x) := by
  intro w hw
  unfold dvL at hw
  rw [accA] at hw
  omega
/-- the state of the construction: the languages, the table, the ends, the place, the letter -/
abbrev CanS := List Lang × List Int × List Bool × Nat × Nat
noncomputable def canStep (k : Nat) (s : CanS) : CanS :=
  match s with
  | (D, nx, fin, i, x) =>
    if i < D.length then
      (if x < k then
        (if DeadL (dvL (D.getD i (fun _ => False)) x) then (D, nx ++ [-1], fin, i, x + 1)
         else if dvL (D.getD i (fun _ => False)) x ∈ D then (D, nx ++ [((D.idxOf (dvL (D.getD i (fun _ => False)) x) : Nat) : Int)], fin, i, x + 1)
         else (D ++ [dvL (D.getD i (fun _ => False)) x], nx ++ [(D.length : Int)], fin, i, x + 1))
       else (D, nx, fin ++ [decide (D.getD i (fun _ => False) [])], i + 1, 0))
    else s
noncomputable def canN (k : Nat) (L : Lang) : Nat → CanS
  | 0 => ([L], [], [], 0, 0)
  | n + 1 => canStep k (canN k L n)
def CanAt (k : Nat) (L : Lang) (D : List Lang) (nx : List Int) (fin : List Bool) (i x : Nat) : Prop := ∃ n, canN k L n = (D, nx, fin, i, x)
theorem CanAt.start (k : Nat) (L : Lang) : CanAt k L [L] [] [] 0 0 := ⟨0, rfl⟩
section
variable {k : Nat} {L : Lang} {D : List Lang} {nx : List Int} {fin : List Bool} {i x : Nat}
theorem CanAt.dead (h : CanAt k L D nx fin i x) (hi : i < D.length) (hx : x < k) (hd : DeadL (dvL (D.getD i (fun _ => False)) x)) : CanAt k L D (nx ++ [-1]) fin i (x + 1) := by
  obtain ⟨n, e⟩ := h
  refine ⟨n + 1, ?_⟩
  show canStep k (canN k L n) = _
  rw [e]; unfold canStep; simp only [if_pos hi, if_pos hx, if_pos hd]
theorem CanAt.old (h : CanAt k L D nx fin i x) (hi : i < D.length) (hx : x < k) (hd : ¬ DeadL (dvL (D.getD i (fun _ => False)) x)) (hm : dvL (D.getD i (fun _ => False)) x ∈ D) : CanAt k L D (nx ++ [((D.idxOf (dvL (D.getD i (fun _ => False)) x) : Nat) : Int)]) fin i (x + 1) := by
  obtain ⟨n, e⟩ := h
  refine ⟨n + 1, ?_⟩
  show canStep k (canN k L n) = _
  rw [e]; unfold canStep; simp only [if_pos hi, if_pos hx, if_neg hd, if_pos hm]
theorem CanAt.new (h : CanAt k L D nx fin i x) (hi : i < D.length) (hx : x < k) (hd : ¬ DeadL (dvL (D.getD i (fun _ => False)) x)) (hm : dvL (D.getD i (fun _ => False)) x ∉ D) : CanAt k L (D ++ [dvL (D.getD i (fun _ => False)) x]) (nx ++ [(D.length : Int)]) fin i (x + 1) := by
  obtain ⟨n, e⟩ := h
  refine ⟨n + 1, ?_⟩
  show canStep k (canN k L n) = _
  rw [e]; unfold canStep; simp only [if_pos hi, if_pos hx, if_neg hd, if_neg hm]
theorem CanAt.row (h : CanAt k L D nx fin i x) (hi : i < D.length) (hx : ¬ x < k) : CanAt k L D nx (fin ++ [decide (D.getD i (fun _ => False) [])]) (i + 1) 0 := by
  obtain ⟨n, e⟩ := h
  refine ⟨n + 1, ?_⟩
  show canStep k (canN k L n) = _
  rw [e]; unfold canStep; simp only [if_pos hi, if_neg hx]
theorem can_stay {n : Nat} (e : canN k L n = (D, nx, fin, i, x)) (hi : ¬ i < D.length) : ∀ d, canN k L (n + d) = (D, nx, fin, i, x)
  | 0 => e
  | d + 1 => by
    show canStep k (canN k L (n + d)) = _
    rw [can_stay e hi d]; unfold canStep; simp only [if_neg hi]
/-- the smallest automaton of a language: its table and its ends -/
def CanIs (k : Nat) (L : Lang) (nx : List Int) (fin : List Bool) : Prop := ∃ D i x, CanAt k L D nx fin i x ∧ ¬ i < D.length
theorem CanIs.uniq {nx' : List Int} {fin' : List Bool} (h : CanIs k L nx fin) (h' : CanIs k L nx' fin') : nx = nx' ∧ fin = fin' := by
  obtain ⟨D, i, x, ⟨n, e⟩, hi⟩ := h
  obtain ⟨D', i', x', ⟨n', e'⟩, hi'⟩ := h'
  have h1 := can_stay e hi n'
  have h2 := can_stay e' hi' n
  rw [Nat.add_comm] at h2
  rw [h1] at h2
  have h3 := congrArg (fun s : CanS => s.2.1) h2
  have h4 := congrArg (fun s : CanS => s.2.2.1) h2
  exact ⟨h3, h4⟩
/-- what holds along the construction -/
structure CanOk (k : Nat) (L : Lang) (D : List Lang) (nx : List Int) (fin : List Bool) (i x : Nat) : Prop where
  nodup : D.Nodup
  zero : D.getD 0 (fun _ => False) = L
  one : 1 ≤ D.length
  ile : i ≤ D.length
  xle : x ≤ k
  xend : i = D.length → x = 0
  nlen : nx.length = i * k + x
  flen : fin.length = i
  tab : ∀ j y, j * k + y < i * k + x → y < k → j < D.length ∧ (nx.getD (j * k + y) (-1) = -1 ∧ DeadL (dvL (D.getD j (fun _ => False)) y) ∨ ∃ q, q < D.length ∧ nx.getD (j * k + y) (-1) = (q : Int) ∧ D.getD q (fun _ => False) = dvL (D.getD j (fun _ => False)) y)
  ends : ∀ j, j < i → fin.getD j false = decide (D.getD j (fun _ => False) [])
end
theorem getD_appL {α : Type _} {l t : List α} {i : Nat} {d : α} (h : i < l.length) : (l ++ t).getD i d = l.getD i d := by
  simp [List.getD_eq_getElem?_getD, List.getElem?_append, h]
theorem getD_lastL {α : Type _} {l : List α} {v d : α} : (l ++ [v]).getD l.length d = v := by
  simp [List.getD_eq_getElem?_getD]
theorem getD_idxOf {l : List Lang} {v d : Lang} (h : v ∈ l) : l.getD (l.idxOf v) d = v := by
  have h1 := List.idxOf_lt_length_of_mem h
  rw [List.getD_eq_getElem?_getD, List.getElem?_eq_getElem h1]
  exact List.getElem_idxOf h1
theorem CanAt.ok {k : Nat} {L : Lang} {D : List Lang} {nx : List Int} {fin : List Bool} {i x : Nat} (h : CanAt k L D nx fin i x) : CanOk k L D nx fin i x := by
  obtain ⟨n, e⟩ := h
  induction n generalizing D nx fin i x with
  | zero =>
    have e1 : ([L], ([] : List Int), ([] : List Bool), 0, 0) = (D, nx, fin, i, x) := e
    simp only [Prod.mk.injEq] at e1
    obtain ⟨rfl, rfl, rfl, rfl, rfl⟩ := e1
    exact ⟨by simp, rfl, by simp, by simp, by omega, by simp, by simp, rfl, fun j y h => by omega, fun j h => by omega⟩
  | succ n ih =>
    obtain ⟨⟨D0, nx0, fin0, i0, x0⟩, hs⟩ : ∃ s, canN k L n = s := ⟨_, rfl⟩
    have I := ih hs
    have e2 : canStep k (D0, nx0, fin0, i0, x0) = (D, nx, fin, i, x) := by rw [← hs]; exact e
    unfold canStep at e2
    simp only at e2
    have hil := I.ile
    have hxl := I.xle
    have hnl := I.nlen
    have hfl := I.flen
    by_cases hi : i0 < D0.length
    · rw [if_pos hi] at e2
      by_cases hx : x0 < k
      · rw [if_pos hx] at e2
        by_cases hd : DeadL (dvL (D0.getD i0 (fun _ => False)) x0)
        · rw [if_pos hd] at e2
          simp only [Prod.mk.injEq] at e2
          obtain ⟨rfl, rfl, rfl, rfl, rfl⟩ := e2
          refine ⟨I.nodup, I.zero, I.one, I.ile, by omega, by omega, by rw [List.length_append, hnl]; simp; omega, hfl, fun j y hj hy => ?_, I.ends⟩
          by_cases hl : j * k + y < i0 * k + x0
          · rw [getD_appL (by omega)]; exact I.tab j y hl hy
          · have e3 : j * k + y = i0 * k + x0 := by omega
            have e4 : j = i0 := by
              have h1 : (j * k + y) / k = j := by rw [Nat.mul_comm, Nat.mul_add_div (by omega), Nat.div_eq_of_lt hy]; omega
              have h2 : (i0 * k + x0) / k = i0 := by rw [Nat.mul_comm, Nat.mul_add_div (by omega), Nat.div_eq_of_lt hx]; omega
              rw [← h1, e3, h2]
            subst e4
            have e5 : y = x0 := by omega
            subst e5
            refine ⟨hi, .inl ⟨?_, hd⟩⟩
            rw [← hnl]; exact getD_lastL
        · rw [if_neg hd] at e2
          by_cases hm : dvL (D0.getD i0 (fun _ => False)) x0 ∈ D0
          · rw [if_pos hm] at e2
            simp only [Prod.mk.injEq] at e2
            obtain ⟨rfl, rfl, rfl, rfl, rfl⟩ := e2
            refine ⟨I.nodup, I.zero, I.one, I.ile, by omega, by omega, by rw [List.length_append, hnl]; simp; omega, hfl, fun j y hj hy => ?_, I.ends⟩
            by_cases hl : j * k + y < i0 * k + x0
            · rw [getD_appL (by omega)]; exact I.tab j y hl hy
            · have e3 : j * k + y = i0 * k + x0 := by omega
              have e4 : j = i0 := by
                have h1 : (j * k + y) / k = j := by rw [Nat.mul_comm, Nat.mul_add_div (by omega), Nat.div_eq_of_lt hy]; omega
                have h2 : (i0 * k + x0) / k = i0 := by rw [Nat.mul_comm, Nat.mul_add_div (by omega), Nat.div_eq_of_lt hx]; omega
                rw [← h1, e3, h2]
              subst e4
              have e5 : y = x0 := by omega
              subst e5
              refine ⟨hi, .inr ⟨_, List.idxOf_lt_length_of_mem hm, ?_, getD_idxOf hm⟩⟩
              rw [← hnl]; exact getD_lastL
          · rw [if_neg hm] at e2
            simp only [Prod.mk.injEq] at e2
            obtain ⟨rfl, rfl, rfl, rfl, rfl⟩ := e2
            refine ⟨?_, by rw [getD_appL (by omega)]; exact I.zero, by simp, by rw [List.length_append]; omega, by omega, by rw [List.length_append, List.length_singleton]; omega, by rw [List.length_append, hnl]; simp; omega, hfl, fun j y hj hy => ?_, fun j hj => by rw [getD_appL (by omega)]; exact I.ends j hj⟩
            · rw [List.nodup_append]
              exact ⟨I.nodup, by simp, fun a ha b hb => by rw [List.mem_singleton.1 hb]; exact fun e => hm (e ▸ ha)⟩
            by_cases hl : j * k + y < i0 * k + x0
            · obtain ⟨h1, h2⟩ := I.tab j y hl hy
              rw [getD_appL (l := nx0) (by omega), getD_appL (l := D0) h1]
              refine ⟨by rw [List.length_append]; omega, ?_⟩
              rcases h2 with h2 | ⟨q, h2, h3, h4⟩
              · exact .inl h2
              · exact .inr ⟨q, by rw [List.length_append]; omega, h3, by rw [getD_appL h2]; exact h4⟩
            · have e3 : j * k + y = i0 * k + x0 := by omega
              have e4 : j = i0 := by
                have h1 : (j * k + y) / k = j := by rw [Nat.mul_comm, Nat.mul_add_div (by omega), Nat.div_eq_of_lt hy]; omega
                have h2 : (i0 * k + x0) / k = i0 := by rw [Nat.mul_comm, Nat.mul_add_div (by omega), Nat.div_eq_of_lt hx]; omega
                rw [← h1, e3, h2]
              subst e4
              have e5 : y = x0 := by omega
              subst e5
              refine ⟨by rw [List.length_append]; omega, .inr ⟨D0.length, by simp, ?_, ?_⟩⟩
              · rw [← hnl]; exact getD_lastL
              · rw [getD_lastL, getD_appL hi]
      · rw [if_neg hx] at e2
        simp only [Prod.mk.injEq] at e2
        obtain ⟨rfl, rfl, rfl, rfl, rfl⟩ := e2
        have hk : x0 = k := by omega
        refine ⟨I.nodup, I.zero, I.one, by omega, by omega, by omega, by rw [hnl, hk, Nat.add_mul]; omega, by rw [List.length_append, hfl]; rfl, fun j y hj hy => ?_, fun j hj => ?_⟩
        · exact I.tab j y (by rw [Nat.add_mul] at hj; omega) hy
        · by_cases hl : j < i0
          · rw [getD_appL (by omega)]; exact I.ends j hl
          · have e3 : j = i0 := by omega
            subst e3
            rw [← hfl, getD_lastL]
    · rw [if_neg hi] at e2
      simp only [Prod.mk.injEq] at e2
      obtain ⟨rfl, rfl, rfl, rfl, rfl⟩ := e2
      exact I
/-- the smallest automaton accepts the language -/
theorem CanIs.acc {k : Nat} {L : Lang} {nx : List Int} {fin : List Bool} (h : CanIs k L nx fin) (hL : ∀ w, L w → ∀ y ∈ w, y < k) : accA k nx fin 0 = L ∧ 1 ≤ fin.length ∧ nx.length = fin.length * k ∧ (∀ v ∈ nx, -1 ≤ v ∧ v < fin.length) ∧ fin.getD 0 false = decide (L []) := by
  obtain ⟨D, i, x, h, hi⟩ := h
  have I := h.ok
  have hi2 : i = D.length := by have := I.ile; omega
  have hx0 := I.xend hi2
  subst hx0
  subst hi2
  have hlt : ∀ {j y : Nat}, j < D.length → y < k → j * k + y < D.length * k + 0 := fun {j y} hj hy => by
    have : (j + 1) * k ≤ D.length * k := Nat.mul_le_mul_right _ hj
    rw [Nat.add_mul] at this; omega
  have key : ∀ (w : List Nat) (j : Nat), j < D.length → (∀ y ∈ w, y < k) → (accA k nx fin j w ↔ D.getD j (fun _ => False) w) := by
    intro w
    induction w with
    | nil =>
      intro j hj _
      rw [accA, I.ends j hj]; simp
    | cons y w ih =>
      intro j hj hw
      have hy := hw y (List.mem_cons_self ..)
      rw [accA]
      rcases (I.tab j y (hlt hj hy) hy).2 with ⟨h1, h2⟩ | ⟨q, h1, h2, h3⟩
      · unfold nxI
        rw [h1]
        exact ⟨fun h => by omega, fun h => absurd h (h2 w)⟩
      · unfold nxI
        rw [h2]
        have h4 := ih q h1 (fun z hz => hw z (List.mem_cons_of_mem _ hz))
        rw [h3] at h4
        constructor
        · intro h; exact h4.1 h.2.2
        · intro h; exact ⟨hy, by omega, h4.2 h⟩
  have lets : ∀ (w : List Nat) (j : Nat), accA k nx fin j w → ∀ y ∈ w, y < k := by
    intro w
    induction w with
    | nil => intro j _ y hy; cases hy
    | cons z w ih =>
      intro j h y hy
      rw [accA] at h
      rcases List.mem_cons.1 hy with rfl | hy
      · exact h.1
      · exact ih _ h.2.2 y hy
  refine ⟨?_, by rw [I.flen]; exact I.one, by rw [I.nlen, I.flen]; rfl, fun v hv => ?_, by rw [I.ends 0 I.one, I.zero]⟩
  · funext w
    refine propext ⟨fun h => ?_, fun h => ?_⟩
    · have := (key w 0 I.one (lets w 0 h)).1 h
      rwa [I.zero] at this
    · refine (key w 0 I.one (hL w h)).2 ?_
      rwa [I.zero]
  · obtain ⟨p, hp, e⟩ := List.getElem_of_mem hv
    have hnl := I.nlen
    have hk : 0 < k := by
      refine Nat.pos_of_ne_zero fun e => ?_
      subst e; omega
    have h1 : p / k * k + p % k = p := by rw [Nat.mul_comm]; exact Nat.div_add_mod p k
    have h2 := Nat.mod_lt p hk
    have h3 := (I.tab (p / k) (p % k) (by rw [h1]; omega) h2).2
    rw [h1, List.getD_eq_getElem?_getD, List.getElem?_eq_getElem hp, Option.getD_some, e] at h3
    rw [I.flen]
    rcases h3 with ⟨h3, _⟩ | ⟨q, h3, h4, _⟩
    · have := I.one; omega
    · omega
end Go.Proofs.YtoddpmdjjgnpgaaGreatDoor
namespace Go.Proofs.YtoddpmdjjgnpgaaGreatDoor
open Go.RowKit
set_option linter.unusedVariables false
/-- a function value that answers p for the numbers of a list in every world that is as w below block B, and keeps what lay there -/
def PredInts (B : Nat) (g : Nat) (caps : Array Value) (p : Int → Bool) (l : List Int) (w : World) : Prop :=
  ∀ j, j < l.length → ∀ W, Below B w W → Calls Tryz.prog g (#[.int .i64 (nthZ l j)] ++ caps) W fun e W' => e = .returned (.bool (p (nthZ l j))) ∧ Below W.heap.size W W'
/-- the first place with a property, or -1 -/
def idxZ (p : Int → Bool) (l : List Int) : Int := match l.findIdx? p with | some i => i | none => -1
/-- none of the first j has it -/
def noneTo (p : Int → Bool) (l : List Int) (j : Nat) : Prop := ∀ i, i < j → p (nthZ l i) = false
theorem noneTo_zero (p : Int → Bool) (l : List Int) : noneTo p l 0 := fun _ h => absurd h (Nat.not_lt_zero _)
theorem noneTo_succ {p : Int → Bool} {l : List Int} {j : Nat} (h : noneTo p l j) (hj : p (nthZ l j) = false) : noneTo p l (j + 1) := fun i hi => by
  by_cases e : i = j
  · rw [e]; exact hj
  · exact h i (by omega)
theorem idxZ_at {p : Int → Bool} {l : List Int} {j : Nat} (h : noneTo p l j) (hlt : j < l.length) (hj : p (nthZ l j) = true) : idxZ p l = j := by
  have : l.findIdx? p = some j := by
    rw [List.findIdx?_eq_some_iff_getElem]
    refine ⟨hlt, by rw [← nthZ_lt hlt]; exact hj, fun i hi => ?_⟩
    have := h i hi
    rw [nthZ_lt (by omega)] at this
    simp [this]
  simp [idxZ, this]
theorem idxZ_none {p : Int → Bool} {l : List Int} {j : Nat} (h : noneTo p l j) (hlt : ¬ j < l.length) : idxZ p l = -1 := by
  have : l.findIdx? p = none := by
    rw [List.findIdx?_eq_none_iff]
    intro x hx
    obtain ⟨i, hi, rfl⟩ := List.getElem_of_mem hx
    rw [← nthZ_lt hi]
    exact h i (by omega)
  simp [idxZ, this]
theorem idxZ_nonneg (p : Int → Bool) (l : List Int) : decide (0 ≤ idxZ p l) = l.any p := by
  unfold idxZ
  cases h : l.findIdx? p
  · rw [List.findIdx?_eq_none_iff] at h
    have : l.any p = false := by rw [List.any_eq_false]; intro x hx; simp [h x hx]
    simp [this]
  · rename_i i
    rw [List.findIdx?_eq_some_iff_getElem] at h
    obtain ⟨hi, hp, _⟩ := h
    have : l.any p = true := by rw [List.any_eq_true]; exact ⟨l[i], List.getElem_mem hi, hp⟩
    simp [this]
set_option maxHeartbeats 400000 in
theorem indexFuncInts_any (g : Nat) (caps : Array Value) (p : Int → Bool) (l : List Int) (a : Option Addr) (cap : Nat) (w : World) (hl : IntsIn w a l) (hlen : l.length ≤ 2 ^ 47)
    (B : Nat) (hB : B ≤ w.heap.size) (hf : PredInts B g caps p l w) (eg : ∀ args w, (callFunc g args).run Tryz.prog w = .ok (.enter g args) w) :
    Calls Tryz.prog 100 #[.slice a l.length cap, .func (.func g) #[] caps] w fun e w' => e = .returned (.int .i64 (idxZ p l)) ∧ Below w.heap.size w w' := by
  have HF := Lib.hid hf
  clear hf
  go_enter Tryz.func100, Tryz.ntmps100
  go_wp2
  go_loopw [8] (fun i wr => ∃ j : Nat, j ≤ l.length ∧ i = .int .i64 j ∧ noneTo p l j ∧ Below w.heap.size w wr) (fun i _ => l.length - (intOf i).toNat)
  case atStart => exact ⟨0, Nat.zero_le _, rfl, noneTo_zero _ _, Below.refl _ _⟩
  case round =>
    obtain ⟨j, hj, rfl, hall, hbel⟩ := hrel
    have H := Lib.hid hall
    clear hall
    by_cases hlt : j < l.length
    · obtain ⟨b, off, rfl, hb, hc⟩ := hl.cell hlt
      have h1 : wr.cell? ⟨b, off + j, none⟩ = some (.int .i64 (nthZ l j)) := by rw [hbel.cell hb]; exact hc j hlt
      clear hc
      cases hp : p (nthZ l j)
      · have F := Lib.hid (noneTo_succ H.out hp)
        go_wp2_with fail
        refine (HF.out j hlt _ (hbel.mono hB)).mono ?_
        rintro e w2 ⟨rfl, hb2⟩
        have hbel2 := Below.now hbel hb2
        clear hb2 h1 hbel
        go_wp2_with fail
        go_roundw
        case rel => exact ⟨j + 1, by omega, by go_num, F.out, hbel2⟩
        case measure => simp [intOf]; omega
      · have F := Lib.hid (idxZ_at H.out hlt hp)
        go_wp2_with fail
        refine (HF.out j hlt _ (hbel.mono hB)).mono ?_
        rintro e w2 ⟨rfl, hb2⟩
        have hbel2 := Below.now hbel hb2
        clear hb2 h1 hbel
        go_wp2_with fail
        go_ret
        exact ⟨ret_int F.out.symm, hbel2⟩
    · have F := Lib.hid (idxZ_none H.out hlt)
      go_wp2_with fail
      go_ret
      exact ⟨ret_int F.out.symm, hbel⟩
set_option maxHeartbeats 400000 in
theorem containsFuncInts_any (g : Nat) (caps : Array Value) (p : Int → Bool) (l : List Int) (a : Option Addr) (cap : Nat) (w : World) (hl : IntsIn w a l) (hlen : l.length ≤ 2 ^ 47)
    (B : Nat) (hB : B ≤ w.heap.size) (hf : PredInts B g caps p l w) (eg : ∀ args w, (callFunc g args).run Tryz.prog w = .ok (.enter g args) w) :
    Calls Tryz.prog 139 #[.slice a l.length cap, .func (.func g) #[] caps] w fun e w' => e = .returned (.bool (l.any p)) ∧ Below w.heap.size w w' := by
  have HC := Lib.hid (indexFuncInts_any g caps p l a cap w hl hlen B hB hf eg)
  have HI := Lib.hid (idxZ_nonneg p l)
  clear hf eg hl
  go_enter Tryz.func139, Tryz.ntmps139
  go_wp2_with fail
  refine HC.out.mono ?_
  rintro e w2 ⟨rfl, hb2⟩
  go_wp2_with fail
  go_ret
  exact ⟨ret_bool HI.out, hb2⟩
/-- the closure of allWithin -/
theorem allWithinPred (lo hi : Int) (l : List Int) (w : World) (b1 b2 : Nat) (hb1 : b1 < w.heap.size) (hb2 : b2 < w.heap.size)
    (h1 : w.cell? ⟨b1, 0, none⟩ = some (.int .i64 lo)) (h2 : w.cell? ⟨b2, 0, none⟩ = some (.int .i64 hi)) :
    PredInts w.heap.size 140 #[.pointer (some ⟨b1, 0, none⟩), .pointer (some ⟨b2, 0, none⟩)] (fun x => !inB x lo hi) l w := by
  intro j hj W hW
  have g1 : W.cell? ⟨b1, 0, none⟩ = some (.int .i64 lo) := by rw [hW.cell hb1]; exact h1
  have g2 : W.cell? ⟨b2, 0, none⟩ = some (.int .i64 hi) := by rw [hW.cell hb2]; exact h2
  clear h1 h2 hW hb1 hb2
  go_enter Tryz.func140, Tryz.ntmps140
  go_wp2_with (go_at_call 50; refine (within_any _ _ _ _).mono ?_; rintro e w' ⟨rfl, rfl⟩)
  go_ret
  exact ⟨rfl, Below.refl _ _⟩
theorem any_not_all {α : Type} (l : List α) (p : α → Bool) : (!l.any fun x => !p x) = l.all p := by simp [List.all_eq_not_any_not]
set_option maxHeartbeats 400000 in
theorem allWithin_any (lo hi : Int) (l : List Int) (a : Option Addr) (cap : Nat) (w : World) (hl : IntsIn w a l) (hlen : l.length ≤ 2 ^ 47) :
    Calls Tryz.prog 95 #[.slice a l.length cap, .int .i64 lo, .int .i64 hi] w fun e w' => e = .returned (.bool (l.all fun x => inB x lo hi)) ∧ Below w.heap.size w w' := by
  have HA := Lib.hid (any_not_all l fun x => inB x lo hi)
  have HC : Hid (∀ W b1 b2, IntsIn W a l → PredInts W.heap.size 140 #[.pointer (some ⟨b1, 0, none⟩), .pointer (some ⟨b2, 0, none⟩)] (fun x => !inB x lo hi) l W → _) :=
    fun W b1 b2 h1 h2 => containsFuncInts_any 140 #[.pointer (some ⟨b1, 0, none⟩), .pointer (some ⟨b2, 0, none⟩)] (fun x => !inB x lo hi) l a cap W h1 hlen W.heap.size (Nat.le_refl _) h2 (enters_of Tryz.func140 (by kernel_rfl) rfl)
  have HL := Lib.hid hl
  clear hl
  go_enter Tryz.func95, Tryz.ntmps95
  go_wp2_with fail
  refine (HC.out _ _ _ (HL.out.later (((Below.refl _ _).alloc (Nat.le_refl _) _).alloc (by simp) _)) (allWithinPred lo hi l _ _ _ (by simp; omega) (by simp) (by simp) (by simp))).mono ?_
  rintro e w2 ⟨rfl, hb2⟩
  have hbel := Below.now (((Below.refl w.heap.size w).alloc (Nat.le_refl _) _).alloc (by simp) _) hb2
  clear hb2
  go_wp2_with fail
  go_ret
  exact ⟨ret_bool HA.out, hbel⟩
end Go.Proofs.YtoddpmdjjgnpgaaGreatDoor
namespace Go.Proofs.YtoddpmdjjgnpgaaGreatDoor
open Go.RowKit
set_option linter.unusedVariables false
def boolsV (l : List Bool) : List Value := l.map Value.bool
/-- a slice of truth values -/
def BoolsIn (w : World) (a : Option Addr) (l : List Bool) : Prop := CellsIn w a (boolsV l)
theorem BoolsIn.later {w w' : World} {a : Option Addr} {l : List Bool} (h : BoolsIn w a l) (hb : Below w.heap.size w w') : BoolsIn w' a l := CellsIn.later h hb
theorem BoolsIn.cell {w : World} {a : Option Addr} {l : List Bool} (h : BoolsIn w a l) {i : Nat} (hi : i < l.length) :
    ∃ b off, a = some ⟨b, off, none⟩ ∧ b < w.heap.size ∧ ∀ j, j < l.length → w.cell? ⟨b, off + j, none⟩ = some (.bool (l.getD j false)) := by
  rcases h with h | ⟨b, off, ha, hc⟩
  · rw [boolsV, List.map_eq_nil_iff] at h
    subst h
    simp at hi
  · have key : ∀ j, j < l.length → w.cell? ⟨b, off + j, none⟩ = some (.bool (l.getD j false)) := fun j hj => by
      have := hc j (by simpa [boolsV] using hj)
      simpa [boolsV, List.getD_eq_getElem?_getD, hj] using this
    exact ⟨b, off, ha, World.block_lt_of_cell? w _ (key i hi), key⟩
theorem owns_bools {w : World} {base : Nat} {T : TypeId} {size : Nat} {a : Option Addr} {n m cap : Nat} {l : List Bool} (h : w.ownsRow base T size (.slice a m cap) n (boolsV l)) : BoolsIn w a l := owns_cells h
/-- a valid automaton -/
def AutP (k : Nat) (N : List Int) (F : List Bool) : Prop := ((1 ≤ k ∧ k ≤ 4) ∧ 1 ≤ F.length ∧ F.length ≤ 80) ∧ N.length = F.length * k ∧ ∀ v ∈ N, -1 ≤ v ∧ v < F.length
theorem AutP.small {k : Nat} {N : List Int} {F : List Bool} (h : AutP k N F) : N.length ≤ 320 := by
  rw [h.2.1]
  have h1 := h.1.1.2
  have h2 := h.1.2.2
  exact Nat.le_trans (Nat.mul_le_mul h2 h1) (by omega)
theorem AutP.slot {k : Nat} {N : List Int} {F : List Bool} (h : AutP k N F) {s x : Nat} (hs : s < F.length) (hx : x < k) : s * k + x < N.length := by
  rw [h.2.1]
  have h1 : (s + 1) * k ≤ F.length * k := Nat.mul_le_mul_right _ hs
  rw [Nat.succ_mul] at h1
  omega
theorem AutP.next {k : Nat} {N : List Int} {F : List Bool} (h : AutP k N F) {s x : Nat} (hs : s < F.length) (hx : x < k) : -1 ≤ nxI k N s x ∧ nxI k N s x < F.length := by
  have h1 := h.slot hs hx
  unfold nxI
  rw [List.getD_eq_getElem?_getD, List.getElem?_eq_getElem h1]
  exact h.2.2 _ (List.getElem_mem h1)
theorem aut_cells {W : World} {B : Nat} {x y z : Value} {T : TypeId} (h : W.heap[B]? = some (.cells #[x, y, z] T (0, 0))) : W.cell? ⟨B, 0, none⟩ = some x ∧ W.cell? ⟨B, 1, none⟩ = some y ∧ W.cell? ⟨B, 2, none⟩ = some z := by
  refine ⟨by simp [World.cell?, h], by simp [World.cell?, h], by simp [World.cell?, h]⟩
theorem blk_later {W : World} {i : Nat} {o : Obj} (h : W.heap[i]? = some o) {W' : World} (hW : Below W.heap.size W W') : W'.heap[i]? = some o := (hW.block i (Array.getElem?_eq_some_iff.1 h).1).trans h
set_option maxRecDepth 20000 in
set_option maxHeartbeats 2000000 in
theorem implAutOk_yes (k : Nat) (N : List Int) (F : List Bool) (aN aF : Option Addr) (cN cF : Nat) (w : World) (hN : IntsIn w aN N) (h : AutP k N F) :
    Calls Tryz.prog 45 #[.agg #[.int .i64 (k : Nat), .slice aN N.length cN, .slice aF F.length cF]] w fun e w' => e = .returned (.bool true) ∧ Below w.heap.size w w' := by
  have HW1 := Lib.hid (alloc_belowS w (.cells #[.int .i64 (k : Nat), .slice aN N.length cN, .slice aF F.length cF] 30))
  obtain ⟨x0, x1, x2⟩ := aut_cells (alloc_at w (.cells #[.int .i64 (k : Nat), .slice aN N.length cN, .slice aF F.length cF] 30))
  have hk1 := h.1.1.1
  have hk4 := h.1.1.2
  have hn1 := h.1.2.1
  have hn80 := h.1.2.2
  have hsm := h.small
  have P1 : Hid (∀ W, Calls Tryz.prog 50 #[.int .i64 (k : Nat), .int .i64 1, .int .i64 4] W fun e w' => e = .returned (.bool true) ∧ W = w') := Lib.hid (fun W => by
    have h1 := within_any (k : Nat) 1 4 W
    rwa [show inB ((k : Nat) : Int) 1 4 = true by simp [inB]; omega] at h1)
  have P2 : Hid (∀ W, Calls Tryz.prog 50 #[.int .i64 (F.length : Nat), .int .i64 1, .int .i64 80] W fun e w' => e = .returned (.bool true) ∧ W = w') := Lib.hid (fun W => by
    have h1 := within_any (F.length : Nat) 1 80 W
    rwa [show inB ((F.length : Nat) : Int) 1 80 = true by simp [inB]; omega] at h1)
  have P3 : Hid (∀ W, IntsIn W aN N → Calls Tryz.prog 95 #[.slice aN N.length cN, .int .i64 (-1), .int .i64 ((F.length : Int) - 1)] W fun e w' => e = .returned (.bool true) ∧ Below W.heap.size W w') := Lib.hid (fun W hW => by
    have h1 := allWithin_any (-1) ((F.length : Int) - 1) N aN cN W hW (by omega)
    rwa [show (N.all fun x => inB x (-1) ((F.length : Int) - 1)) = true by
      rw [List.all_eq_true]; intro v hv; have := h.2.2 v hv; simp [inB]; omega] at h1)
  have HNI := Lib.hid (hN.later HW1.out)
  obtain ⟨p, hp⟩ : ∃ p, F.length * k = p := ⟨_, rfl⟩
  have hNp : N.length = p := by rw [h.2.1, hp]
  have hmul : (k : Int) * (F.length : Int) = (p : Int) := by rw [← hp, Int.natCast_mul, Int.mul_comm]
  have HMU := Lib.hid hmul
  have hpp : ((N.length : Int) == (k : Int) * (F.length : Int)) = true := by rw [hmul, hNp]; simp
  have hww : IntKind.i64.wrap ((k : Int) * (F.length : Int)) = (k : Int) * (F.length : Int) := IntWalk.i64_in _ (by rw [hmul]; omega)
  clear hN h hmul hNp
  go_enter Tryz.func45, Tryz.ntmps45
  go_upto_region 1 with fail
  generalize w.alloc (.cells #[.int .i64 (k : Nat), .slice aN N.length cN, .slice aF F.length cF] 30) = w1 at *
  go_wp2_with fail
  refine (P1.out _).mono ?_
  rintro e w2 ⟨rfl, rfl⟩
  go_wp2_with fail
  refine (P2.out _).mono ?_
  rintro e w2 ⟨rfl, rfl⟩
  go_wp2_with fail
  refine (P3.out _ HNI.out).mono ?_
  rintro e w2 ⟨rfl, hb2⟩
  have F := Below.now HW1.out hb2
  clear hb2
  go_wp2_with fail
  go_ret
  exact ⟨rfl, F⟩
set_option maxRecDepth 20000 in
set_option maxHeartbeats 2000000 in
theorem autNext_any (k : Nat) (N : List Int) (n : Nat) (aN aF : Option Addr) (cN cF : Nat) (s x : Nat) (w : World) (hN : IntsIn w aN N) (hk : k ≤ 4) (hs : s * k + x < N.length) (hl : N.length ≤ 1000) :
    Calls Tryz.prog 47 #[.agg #[.int .i64 (k : Nat), .slice aN N.length cN, .slice aF n cF], .int .i64 (s : Nat), .int .i64 (x : Nat)] w fun e w' => e = .returned (.int .i64 (nxI k N s x)) ∧ Below w.heap.size w w' := by
  have HW1 := Lib.hid (alloc_belowS w (.cells #[.int .i64 (k : Nat), .slice aN N.length cN, .slice aF n cF] 30))
  obtain ⟨b, off, rfl, hc⟩ := hN.at hs
  have c1 : (w.alloc (.cells #[.int .i64 (k : Nat), .slice (some ⟨b, off, none⟩) N.length cN, .slice aF n cF] 30)).cell? ⟨b, off + (s * k + x), none⟩ = some (.int .i64 (nxI k N s x)) := by
    have h := hc (s * k + x) hs
    rw [HW1.out.cell (World.block_lt_of_cell? w _ h), h]
    unfold nxI
    rw [List.getD_eq_getElem?_getD, List.getD_eq_getElem?_getD, List.getElem?_eq_getElem hs]
    rfl
  obtain ⟨x0, x1, x2⟩ := aut_cells (alloc_at w (.cells #[.int .i64 (k : Nat), .slice (some ⟨b, off, none⟩) N.length cN, .slice aF n cF] 30))
  generalize nxI k N s x = v at *
  obtain ⟨p, hp⟩ : ∃ p, s * k = p := ⟨_, rfl⟩
  rw [hp] at c1 hs
  have hmul : (s : Int) * (k : Int) = (p : Int) := by rw [← hp, Int.natCast_mul]
  have hww : IntKind.i64.wrap ((s : Int) * (k : Int)) = (p : Int) := by rw [hmul]; exact IntWalk.i64_in _ (by omega)
  have hw2 : IntKind.i64.wrap ((p : Int) + (x : Int)) = ((p + x : Nat) : Int) := by rw [IntWalk.i64_in _ (by omega), Int.natCast_add]
  have hi1 : (p : Int) + (x : Int) < (N.length : Int) := by omega
  have F := HW1.out
  clear hN hc
  go_enter Tryz.func47, Tryz.ntmps47
  go_wp2_with fail
  go_ret
  exact ⟨rfl, F⟩
/-- the letters of a word -/
def ltrs (s : ByteArray) : List Nat := s.data.toList.map fun c => c.toNat - 97
theorem ltrs_len (s : ByteArray) : (ltrs s).length = s.size := by unfold ltrs; rw [List.length_map]; exact Array.length_toList
theorem ltrs_drop {s : ByteArray} {j : Nat} (h : j < s.size) : (ltrs s).drop j = ((s[j]'h).toNat - 97) :: (ltrs s).drop (j + 1) := by
  rw [List.drop_eq_getElem_cons (by rw [ltrs_len]; exact h)]
  congr 1
  unfold ltrs
  rw [List.getElem_map]
  rfl
theorem word_letter {k : Int} {s : ByteArray} (hw : wordOkB k s = true) {j : Nat} (h : j < s.size) : 97 ≤ (s[j]'h).toNat ∧ ((s[j]'h).toNat : Int) - 97 < k := by
  unfold wordOkB at hw
  simp only [Bool.and_eq_true] at hw
  have h1 := List.all_eq_true.1 hw.2.2 (s[j]'h) (by
    have : s[j]'h = s.data.toList[j]'(by simpa using h) := rfl
    rw [this]; exact List.getElem_mem _)
  have := letB_true h1
  omega
set_option maxRecDepth 100000 in
set_option maxHeartbeats 400000 in
theorem implAccepts_any (k : Nat) (N : List Int) (F : List Bool) (aN aF : Option Addr) (cN cF : Nat) (s : ByteArray) (w : World) (hN : IntsIn w aN N) (hF : BoolsIn w aF F) (h : AutP k N F) (hs : s.size ≤ maxLen) :
    Calls Tryz.prog 9 #[.agg #[.int .i64 (k : Nat), .slice aN N.length cN, .slice aF F.length cF], .string s] w (RetP (wordOkB (k : Nat) s = true ∧ accA k N F 0 (ltrs s)) w) := by
  have HW1 := Lib.hid (alloc_belowS w (.cells #[.int .i64 (k : Nat), .slice aN N.length cN, .slice aF F.length cF] 30))
  have HX1 := Lib.hid (alloc_at w (.cells #[.int .i64 (k : Nat), .slice aN N.length cN, .slice aF F.length cF] 30))
  obtain ⟨x0, x1, x2⟩ := aut_cells HX1.out
  have HAP := Lib.hid h
  have HOK := Lib.hid (fun W hW => implAutOk_yes k N F aN aF cN cF W hW h)
  have HWO := Lib.hid (fun W => implWordOk_any (k : Nat) s W hs)
  have HN1 := Lib.hid (hN.later HW1.out)
  have HF1 := Lib.hid (hF.later HW1.out)
  have hsm := h.small
  have hk4 := h.1.1.2
  have HNX := Lib.hid (fun W st x hW hst => autNext_any k N F.length aN aF cN cF st x W hW hk4 hst (by omega))
  clear hN hF h
  go_enter Tryz.func9, Tryz.ntmps9
  go_upto_region 1 with fail
  generalize w.alloc (.cells #[.int .i64 (k : Nat), .slice aN N.length cN, .slice aF F.length cF] 30) = w1 at *
  go_wp2_with fail
  refine (HOK.out _ HN1.out).mono ?_
  rintro e w2 ⟨rfl, hb2⟩
  have HB2 : Hid (Below w.heap.size w w2) := Lib.hid (Below.now HW1.out hb2)
  have HX2 := Lib.hid (blk_later HX1.out hb2)
  have HN2 := Lib.hid (HN1.out.later hb2)
  have HF2 := Lib.hid (HF1.out.later hb2)
  clear hb2 x0 x1 x2 HN1 HF1 HX1 HW1 HOK
  obtain ⟨x0, x1, x2⟩ := aut_cells HX2.out
  cases hw : wordOkB (k : Nat) s
  · rw [hw] at HWO
    have FF : Hid (RetP (wordOkB (k : Nat) s = true ∧ accA k N F 0 (ltrs s)) w (.returned (.bool false)) w2) := Lib.hid (RetP.no (fun hh => by rw [hw] at hh; cases hh.1) HB2.out)
    clear hw
    go_wp2_with fail
    refine (HWO.out _).mono ?_
    rintro e w3 ⟨rfl, rfl⟩
    go_wp2_with fail
    go_ret
    exact FF.out
  · rw [hw] at HWO
    have HLT := Lib.hid (fun j (hj : j < s.size) => word_letter hw hj)
    have HWT := Lib.hid hw
    have hs9 : s.size ≤ 9223372036854775807 := by unfold maxLen at hs; exact hs
    clear hw
    go_wp2_with fail
    refine (HWO.out _).mono ?_
    rintro e w3 ⟨rfl, rfl⟩
    go_wp2_with fail
    clear x0 x1 x2
    go_loopw [5, 19] (fun st i wr => ∃ j q : Nat, (j ≤ s.size ∧ q < F.length) ∧ i = .int .i64 (j : Nat) ∧ st = .int .i64 (q : Nat) ∧ Hid (accA k N F 0 (ltrs s) ↔ accA k N F q ((ltrs s).drop j)) ∧ Below w2.heap.size w2 wr) (fun _ i _ => s.size - (intOf i).toNat)
    case atStart => exact ⟨0, 0, ⟨Nat.zero_le _, HAP.out.1.2.1⟩, rfl, rfl, Lib.hid (by rw [List.drop_zero]), Below.refl _ _⟩
    case round =>
      obtain ⟨j, q, ⟨hj, hq⟩, rfl, rfl, hiff, hbel⟩ := hrel
      have HBL := Lib.hid hbel
      clear hbel
      by_cases hlt : j < s.size
      · have hji : (j : Int) < (s.size : Int) := by omega
        have hd := ltrs_drop hlt
        obtain ⟨hl1, hl2⟩ := HLT.out j hlt
        obtain ⟨c, hc⟩ : ∃ c : Nat, (s[j]'hlt).toNat = c := ⟨_, rfl⟩
        rw [hc] at hd hl1 hl2
        obtain ⟨x, hx⟩ : ∃ x : Nat, c = x + 97 := ⟨c - 97, by omega⟩
        have hxk : x < k := by omega
        have hcv : (((s[j]'hlt).toNat : Nat) : Int) = (x : Int) + 97 := by rw [hc, hx]; omega
        have hsub : (x : Int) + 97 - 97 = (x : Int) := by omega
        have hu8 : IntKind.u8.wrap ((x : Int)) = (x : Int) := by simp [IntKind.wrap, IntKind.signed, IntKind.bits]; omega
        have hi64 : IntKind.i64.wrap ((x : Int)) = (x : Int) := IntWalk.i64_in _ (by omega)
        have hsl := HAP.out.slot hq hxk
        have hnx := HAP.out.next hq hxk
        have HD : Hid ((ltrs s).drop j = x :: (ltrs s).drop (j + 1)) := Lib.hid (by rw [hd, hx]; congr 1)
        have HNQ := Lib.hid (fun W hW => HNX.out W q x hW hsl)
        have HSN : Hid (accA k N F q (x :: (ltrs s).drop (j + 1)) ↔ x < k ∧ 0 ≤ nxI k N q x ∧ accA k N F (nxI k N q x).toNat ((ltrs s).drop (j + 1))) := Lib.hid (by rw [accA])
        clear hd hl1 hl2 hc hx
        generalize nxI k N q x = y at *
        go_wp2_with fail
        refine region_tail 8 (fun W => Below wr.heap.size wr W) (fun W W2 => Below W.heap.size W W2) (fun u => by simp only [List.take_succ_cons, List.take_zero, fPut, Act.put, List.setIfInBounds_toArray, List.set_cons_succ, List.set_cons_zero, Nat.zero_add, Nat.reduceAdd]; rfl) (by kernel_rfl) (by kernel_rfl) (by kernel_rfl) (by kernel_rfl) (by kernel_rfl) (by kernel_rfl) (by kernel_rfl) (Below.drew (Below.refl _ _)) ?_
        conv => arg 7; simp only [List.take_succ_cons, List.take_zero]
        apply each_read (fun _ => Below.refl _ _) rfl
        · intro u wv hC hf
          obtain ⟨z0, z1, z2⟩ := aut_cells (blk_later HX2.out (Below.now HBL.out hC))
          clear hf
          go_simp
          try rfl
        apply each_read (fun _ => Below.refl _ _) rfl
        · intro u wv hC hf
          obtain ⟨z0, z1, z2⟩ := aut_cells (blk_later HX2.out (Below.now HBL.out hC))
          clear hf
          go_simp
          try rfl
        conv => arg 8; simp only [List.cons_append, List.nil_append]
        apply each_read (fun _ => Below.refl _ _) rfl
        · intro u wv hC hf
          obtain ⟨z0, z1, z2⟩ := aut_cells (blk_later HX2.out (Below.now HBL.out hC))
          clear hf
          go_simp
          try rfl
        conv => arg 8; simp only [List.cons_append, List.nil_append]
        apply each_read (fun _ => Below.refl _ _) rfl
        · intro u wv hC hf
          obtain ⟨z0, z1, z2⟩ := aut_cells (blk_later HX2.out (Below.now HBL.out hC))
          clear hf
          go_simp
          try rfl
        conv => arg 8; simp only [List.cons_append, List.nil_append]
        apply each_read (fun _ => Below.refl _ _) rfl
        · intro u wv hC hf
          obtain ⟨z0, z1, z2⟩ := aut_cells (blk_later HX2.out (Below.now HBL.out hC))
          obtain ⟨d2_0, d3_1, -⟩ := hf
          have e2 : u 2 = _ := d2_0 rfl
          clear d2_0
          have e3 : u 3 = _ := d3_1 rfl
          clear d3_1
          go_simp
          try rfl
        conv => arg 8; simp only [List.cons_append, List.nil_append]
        apply each_read (fun _ => Below.refl _ _) rfl
        · intro u wv hC hf
          obtain ⟨z0, z1, z2⟩ := aut_cells (blk_later HX2.out (Below.now HBL.out hC))
          obtain ⟨d4_0, -⟩ := hf
          have e4 : u 4 = _ := d4_0 rfl
          clear d4_0
          go_simp
          try rfl
        conv => arg 8; simp only [List.cons_append, List.nil_append]
        apply each_read (fun _ => Below.refl _ _) rfl
        · intro u wv hC hf
          obtain ⟨z0, z1, z2⟩ := aut_cells (blk_later HX2.out (Below.now HBL.out hC))
          obtain ⟨d5_0, -⟩ := hf
          have e5 : u 5 = _ := d5_0 rfl
          clear d5_0
          go_simp
          try rfl
        conv => arg 8; simp only [List.cons_append, List.nil_append]
        apply each_callR rfl
        · intro u wv hC hf
          obtain ⟨z0, z1, z2⟩ := aut_cells (blk_later HX2.out (Below.now HBL.out hC))
          obtain ⟨d0_0, d1_1, d6_2, -⟩ := hf
          have e0 : u 0 = _ := d0_0 rfl
          clear d0_0
          have e1 : u 1 = _ := d1_1 rfl
          clear d1_1
          have e6 : u 6 = _ := d6_2 rfl
          clear d6_2
          apply Exists.intro; apply Exists.intro; apply And.intro
          · go_simp; exact ⟨rfl, rfl⟩
          · refine (HNQ.out _ ((HN2.out.later HBL.out).later hC)).mono ?_
            rintro e w9 ⟨rfl, hb9⟩
            exact ⟨rfl, Below.now hC hb9, hb9⟩
        intro u w7 d7 hall
        obtain ⟨a0, a1, a2, a3, a4, a5, a6, a7, -⟩ := hall
        have e0 : u 0 = _ := a0
        clear a0
        have e1 : u 1 = _ := a1
        clear a1
        have e2 : u 2 = _ := a2
        clear a2
        have e3 : u 3 = _ := a3
        clear a3
        have e4 : u 4 = _ := a4
        clear a4
        have e5 : u 5 = _ := a5
        clear a5
        have e6 : u 6 = _ := a6
        clear a6
        have e7 : u 7 = _ := a7
        clear a7
        change wpList _ _ _ (List.drop 8 _) _ _
        simp only [List.drop_succ_cons, List.drop_zero]
        simp only [e0, e1, e2, e3, e4, e5, e6, e7]
        clear e0 e1 e2 e3 e4 e5 e6 e7
        have HB7 := Lib.hid (Below.now HBL.out d7)
        clear d7
        by_cases hy : 0 ≤ y
        · obtain ⟨q2, rfl⟩ : ∃ q2 : Nat, y = (q2 : Int) := ⟨y.toNat, by omega⟩
          have hy0 : ¬ (q2 : Int) < 0 := by omega
          have hq2 : q2 < F.length := by omega
          have HI : Hid (accA k N F 0 (ltrs s) ↔ accA k N F q2 ((ltrs s).drop (j + 1))) := Lib.hid (by
            rw [hiff.out, HD.out, HSN.out]
            exact ⟨fun h => h.2.2, fun h => ⟨hxk, hy, h⟩⟩)
          go_wp2_with fail
          go_roundw
          case rel => exact ⟨j + 1, q2, ⟨by omega, hq2⟩, by go_num, rfl, HI, HB7.out⟩
          case measure => simp [intOf]; omega
        · have hy0 : y < 0 := by omega
          have FF : Hid (∀ W, Below w2.heap.size w2 W → RetP (wordOkB (k : Nat) s = true ∧ accA k N F 0 (ltrs s)) w (.returned (.bool false)) W) := Lib.hid (fun W hW => RetP.no (fun hh => by
            have h2 := hiff.out.1 hh.2
            rw [HD.out, HSN.out] at h2
            exact hy h2.2.1) (Below.now HB2.out hW))
          clear hy
          go_wp2_with fail
          go_ret
          exact FF.out _ HB7.out
      · have hji : ¬ (j : Int) < (s.size : Int) := by omega
        have hjs : j = s.size := by omega
        obtain ⟨b, off, rfl, hb, hc⟩ := ((HF2.out).later HBL.out).cell hq
        have c1 := hc q hq
        have FF : Hid (RetP (wordOkB (k : Nat) s = true ∧ accA k N F 0 (ltrs s)) w (.returned (.bool (F.getD q false))) wr) := Lib.hid ⟨_, by
          have e : (ltrs s).drop j = [] := by rw [hjs, ← ltrs_len]; exact List.drop_length
          rw [hiff.out, e, accA]
          exact ⟨fun h => ⟨HWT.out, h⟩, fun h => h.2⟩, rfl, Below.now HB2.out HBL.out⟩
        have hqi : (q : Int) < (F.length : Int) := by omega
        obtain ⟨x0, x1, x2⟩ := aut_cells (blk_later HX2.out HBL.out)
        generalize F.getD q false = fb at *
        clear hc hjs
        go_wp2_with fail
        go_ret
        exact FF.out
end Go.Proofs.YtoddpmdjjgnpgaaGreatDoor
namespace Go.Proofs.YtoddpmdjjgnpgaaGreatDoor
open Go.RowKit
set_option linter.unusedVariables false
def intVals (l : List Int) : List Value := l.map (Value.int .i64)
end Go.Proofs.YtoddpmdjjgnpgaaGreatDoor
