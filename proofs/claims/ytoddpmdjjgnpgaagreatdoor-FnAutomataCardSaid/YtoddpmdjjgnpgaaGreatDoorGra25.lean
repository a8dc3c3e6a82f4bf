/-
  The automaton of a system's reduced words, as plain data.
-/
import Derived.Test.YtoddpmdjjgnpgaaGreatDoorGra24
import Derived.Test.YtoddpmdjjgnpgaaGreatDoorGra21
import Derived.Test.YtoddpmdjjgnpgaaGreatDoorGra13
namespace Go.Proofs.YtoddpmdjjgnpgaaGreatDoor
set_option linter.unusedVariables false
section
variable {σ : Type}
/-- the words that are accepted from a state -/
def accD (δ : σ → Nat → Option σ) (φ : σ → Bool) (k : Nat) : σ → List Nat → Prop
  | s, [] => φ s = true
  | s, x :: w => x < k ∧ ∃ t, δ s x = some t ∧ accD δ φ k t w
/-- how many words of m letters are accepted -/
def cntD (δ : σ → Nat → Option σ) (φ : σ → Bool) (k : Nat) : Nat → σ → Nat
  | 0, s => if φ s = true then 1 else 0
  | m + 1, s => sumN k fun y => match δ s y with | some t => cntD δ φ k m t | none => 0
structure ExpA (δ : σ → Nat → Option σ) (φ : σ → Bool) (s0 : σ) (k : Nat) (S : List σ) (nx : List Int) (fin : List Bool) (i x : Nat) : Prop where
  zero : S[0]? = some s0
  ile : i ≤ S.length
  xle : x ≤ k
  xend : i = S.length → x = 0
  nlen : nx.length = i * k + x
  flen : fin.length = i
  tab : ∀ j y s, S[j]? = some s → y < k → j * k + y < i * k + x → (δ s y = none ∧ nx.getD (j * k + y) (-1) = -1) ∨ ∃ t q, δ s y = some t ∧ S[q]? = some t ∧ nx.getD (j * k + y) (-1) = ((q : Nat) : Int)
  ends : ∀ j s, S[j]? = some s → j < i → fin.getD j false = φ s
variable {δ : σ → Nat → Option σ} {φ : σ → Bool} {s0 s t : σ} {k : Nat} {S : List σ} {nx : List Int} {fin : List Bool} {i x : Nat}
theorem ExpA.start (δ : σ → Nat → Option σ) (φ : σ → Bool) (s0 : σ) (k : Nat) : ExpA δ φ s0 k [s0] [] [] 0 0 :=
  ⟨rfl, Nat.zero_le _, Nat.zero_le _, fun h => by simp at h, by simp, rfl, fun j y s _ _ h => by omega, fun j s _ h => by omega⟩
theorem same_slot {j y i x k : Nat} (hy : y < k) (hx : x < k) (e : j * k + y = i * k + x) : j = i ∧ y = x := by
  have e4 : j = i := by
    have h1 : (j * k + y) / k = j := by rw [Nat.mul_comm, Nat.mul_add_div (by omega), Nat.div_eq_of_lt hy]; omega
    have h2 : (i * k + x) / k = i := by rw [Nat.mul_comm, Nat.mul_add_div (by omega), Nat.div_eq_of_lt hx]; omega
    rw [← h1, e, h2]
  subst e4
  exact ⟨rfl, by omega⟩
theorem ExpA.dead (h : ExpA δ φ s0 k S nx fin i x) (hi : S[i]? = some s) (hx : x < k) (hd : δ s x = none) : ExpA δ φ s0 k S (nx ++ [-1]) fin i (x + 1) := by
  have hlt := (List.getElem?_eq_some_iff.1 hi).1
  refine ⟨h.zero, h.ile, by omega, fun e => by omega, by rw [List.length_append, h.nlen]; simp; omega, h.flen, fun j y s' hs hy hj => ?_, h.ends⟩
  by_cases hl : j * k + y < i * k + x
  · rw [getD_appL (by rw [h.nlen]; exact hl)]; exact h.tab j y s' hs hy hl
  · obtain ⟨rfl, rfl⟩ := same_slot (j := j) (y := y) (i := i) (x := x) hy hx (by omega)
    rw [hi] at hs
    obtain rfl := Option.some.inj hs
    exact .inl ⟨hd, by rw [← h.nlen]; exact getD_lastL⟩
theorem ExpA.old (h : ExpA δ φ s0 k S nx fin i x) (hi : S[i]? = some s) (hx : x < k) (hd : δ s x = some t) {q : Nat} (hq : S[q]? = some t) : ExpA δ φ s0 k S (nx ++ [(q : Int)]) fin i (x + 1) := by
  have hlt := (List.getElem?_eq_some_iff.1 hi).1
  refine ⟨h.zero, h.ile, by omega, fun e => by omega, by rw [List.length_append, h.nlen]; simp; omega, h.flen, fun j y s' hs hy hj => ?_, h.ends⟩
  by_cases hl : j * k + y < i * k + x
  · rw [getD_appL (by rw [h.nlen]; exact hl)]; exact h.tab j y s' hs hy hl
  · obtain ⟨rfl, rfl⟩ := same_slot (j := j) (y := y) (i := i) (x := x) hy hx (by omega)
    rw [hi] at hs
    obtain rfl := Option.some.inj hs
    exact .inr ⟨t, q, hd, hq, by rw [← h.nlen]; exact getD_lastL⟩
theorem ExpA.grow (h : ExpA δ φ s0 k S nx fin i x) (hi : i < S.length) (t : σ) : ExpA δ φ s0 k (S ++ [t]) nx fin i x := by
  have up : ∀ {j : Nat} {s' : σ}, S[j]? = some s' → (S ++ [t])[j]? = some s' := fun {j s'} hs => by
    rw [List.getElem?_append_left (List.getElem?_eq_some_iff.1 hs).1]; exact hs
  refine ⟨up h.zero, by rw [List.length_append]; have := h.ile; omega, h.xle, fun e => (by rw [List.length_append] at e; simp at e; omega), h.nlen, h.flen, fun j y s' hs hy hj => ?_, fun j s' hs hj => ?_⟩
  · have hji : j ≤ i := by
      rcases Nat.lt_or_ge i j with h1 | h1
      · have h2 : (i + 1) * k ≤ j * k := Nat.mul_le_mul_right _ h1
        have h3 := h.xle
        rw [Nat.add_mul] at h2
        omega
      · exact h1
    rw [List.getElem?_append_left (by omega)] at hs
    rcases h.tab j y s' hs hy hj with h1 | ⟨t', q, h1, h2, h3⟩
    · exact .inl h1
    · exact .inr ⟨t', q, h1, up h2, h3⟩
  · rw [List.getElem?_append_left (by omega)] at hs
    exact h.ends j s' hs hj
theorem ExpA.new (h : ExpA δ φ s0 k S nx fin i x) (hi : S[i]? = some s) (hx : x < k) (hd : δ s x = some t) : ExpA δ φ s0 k (S ++ [t]) (nx ++ [(S.length : Int)]) fin i (x + 1) := by
  have hlt := (List.getElem?_eq_some_iff.1 hi).1
  exact (h.grow hlt t).old (by rw [List.getElem?_append_left hlt]; exact hi) hx hd (by simp)
theorem ExpA.row (h : ExpA δ φ s0 k S nx fin i k) (hi : S[i]? = some s) : ExpA δ φ s0 k S nx (fin ++ [φ s]) (i + 1) 0 := by
  have hlt := (List.getElem?_eq_some_iff.1 hi).1
  refine ⟨h.zero, by omega, Nat.zero_le _, fun _ => rfl, by rw [h.nlen, Nat.add_mul]; omega, by rw [List.length_append, h.flen]; rfl, fun j y s' hs hy hj => ?_, fun j s' hs hj => ?_⟩
  · exact h.tab j y s' hs hy (by rw [Nat.add_mul] at hj; omega)
  · by_cases hl : j < i
    · rw [getD_appL (by rw [h.flen]; exact hl)]; exact h.ends j s' hs hl
    · have e3 : j = i := by omega
      subst e3
      rw [hi] at hs
      obtain rfl := Option.some.inj hs
      rw [← h.flen, getD_lastL]
theorem ExpA.lenN (h : ExpA δ φ s0 k S nx fin i x) (hk : k ≤ 4) {c : Nat} (hc : i ≤ c) : nx.length ≤ 4 * c + 4 := by
  have h1 := h.nlen
  have h2 := h.xle
  have h3 : i * k ≤ c * 4 := Nat.mul_le_mul hc hk
  omega
theorem slot_lt {j y k n : Nat} (hj : j < n) (hy : y < k) : j * k + y < n * k := by
  have : (j + 1) * k ≤ n * k := Nat.mul_le_mul_right _ hj
  rw [Nat.add_mul] at this; omega
/-- what has been found accepts the language -/
theorem ExpA.acc (h : ExpA δ φ s0 k S nx fin S.length 0) : ∀ (w : List Nat) (j : Nat) (s : σ), S[j]? = some s → (accA k nx fin j w ↔ accD δ φ k s w)
  | [], j, s, hs => by
    rw [accA, accD, h.ends j s hs (List.getElem?_eq_some_iff.1 hs).1]
  | y :: w, j, s, hs => by
    rw [accA, accD]
    refine and_congr_right fun hy => ?_
    have hj := (List.getElem?_eq_some_iff.1 hs).1
    unfold nxI
    rcases h.tab j y s hs hy (slot_lt hj hy) with ⟨h1, h2⟩ | ⟨t, q, h1, h2, h3⟩
    · rw [h2, h1]
      exact ⟨fun hh => by omega, fun ⟨t, hh, _⟩ => by cases hh⟩
    · rw [h3, Int.toNat_natCast, ExpA.acc h w q t h2, h1]
      exact ⟨fun hh => ⟨t, rfl, hh.2⟩, fun ⟨t', ht, hh⟩ => by cases ht; exact ⟨by omega, hh⟩⟩
theorem ExpA.cnt (h : ExpA δ φ s0 k S nx fin S.length 0) : ∀ (m j : Nat) (s : σ), S[j]? = some s → cntW k nx fin m j = cntD δ φ k m s
  | 0, j, s, hs => by
    show finN fin j = _
    unfold finN
    rw [h.ends j s hs (List.getElem?_eq_some_iff.1 hs).1]; rfl
  | m + 1, j, s, hs => by
    rw [cntW_succ, cntD]
    refine sumN_congr fun y hy => ?_
    have hj := (List.getElem?_eq_some_iff.1 hs).1
    unfold nxI
    rcases h.tab j y s hs hy (slot_lt hj hy) with ⟨h1, h2⟩ | ⟨t, q, h1, h2, h3⟩
    · rw [h2, h1, if_neg (by omega)]
    · rw [h3, h1, if_pos (by omega), Int.toNat_natCast]
      exact ExpA.cnt h m q t h2
/-- what has been found is an automaton -/
theorem ExpA.ok (h : ExpA δ φ s0 k S nx fin S.length 0) (h1 : 1 ≤ k) (h4 : k ≤ 4) (hS : S.length ≤ 80) : AutP k nx fin := by
  have h0 : 0 < S.length := (List.getElem?_eq_some_iff.1 h.zero).1
  refine ⟨⟨⟨h1, h4⟩, by rw [h.flen]; omega, by rw [h.flen]; exact hS⟩, by rw [h.nlen, h.flen]; rfl, fun v hv => ?_⟩
  obtain ⟨p, hp, e⟩ := List.getElem_of_mem hv
  have hnl := h.nlen
  have hk : 0 < k := h1
  have e1 : p / k * k + p % k = p := by rw [Nat.mul_comm]; exact Nat.div_add_mod p k
  have e2 := Nat.mod_lt p hk
  have hpk : p / k < S.length := by
    refine Nat.div_lt_of_lt_mul ?_
    rw [Nat.mul_comm]; omega
  have e3 := h.tab (p / k) (p % k) S[p / k] (List.getElem?_eq_getElem hpk) e2 (by rw [e1]; omega)
  rw [e1, List.getD_eq_getElem?_getD, List.getElem?_eq_getElem hp, Option.getD_some, e] at e3
  rw [h.flen]
  rcases e3 with ⟨_, e3⟩ | ⟨t, q, _, e3, e4⟩
  · omega
  · have := (List.getElem?_eq_some_iff.1 e3).1
    omega
end
/-! ### two automata at once -/
def meetD (k : Nat) (N N2 : List Int) (p : Nat × Nat) (y : Nat) : Option (Nat × Nat) := if 0 ≤ nxI k N p.1 y ∧ 0 ≤ nxI k N2 p.2 y then some ((nxI k N p.1 y).toNat, (nxI k N2 p.2 y).toNat) else none
def meetF (F F2 : List Bool) (p : Nat × Nat) : Bool := F.getD p.1 false && F2.getD p.2 false
theorem meet_acc {k : Nat} {N N2 : List Int} {F F2 : List Bool} : ∀ (w : List Nat) (p : Nat × Nat), accD (meetD k N N2) (meetF F F2) k p w ↔ accA k N F p.1 w ∧ accA k N2 F2 p.2 w
  | [], p => by
    rw [accD, accA, accA]; unfold meetF
    rw [Bool.and_eq_true]
  | y :: w, p => by
    rw [accD, accA, accA]
    unfold meetD
    by_cases h : 0 ≤ nxI k N p.1 y ∧ 0 ≤ nxI k N2 p.2 y
    · rw [if_pos h]
      constructor
      · rintro ⟨hy, t, ht, hw⟩
        obtain rfl := Option.some.inj ht
        have := (meet_acc w _).1 hw
        exact ⟨⟨hy, h.1, this.1⟩, hy, h.2, this.2⟩
      · rintro ⟨⟨hy, _, h1⟩, _, _, h2⟩
        exact ⟨hy, _, rfl, (meet_acc w _).2 ⟨h1, h2⟩⟩
    · rw [if_neg h]
      constructor
      · rintro ⟨_, t, ht, _⟩; cases ht
      · rintro ⟨⟨_, h1, _⟩, _, h2, _⟩; exact absurd ⟨h1, h2⟩ h
end Go.Proofs.YtoddpmdjjgnpgaaGreatDoor
namespace Go.Proofs.YtoddpmdjjgnpgaaGreatDoor
set_option linter.unusedVariables false
/-- the end behind a letter -/
def redD (R : List RulD) (e : ByteArray) (x : Nat) : Option ByteArray := if okX R e x = true then some (nxtX R e x) else none
def redF (e : ByteArray) : Bool := true
theorem cut_cut (R : List RulD) (v : ByteArray) (x : Nat) : cutR R (cutR R v ++ letterN x) = cutR R (v ++ letterN x) := by
  have hl : ∀ u : ByteArray, (cutR R u).data.toList = u.data.toList.drop (u.size - keepR R) := fun u => by
    unfold cutR
    rw [ByteArray.data_extract, Array.toList_extract, List.extract_eq_take_drop]
    have : u.data.toList.length = u.size := rfl
    rw [List.take_of_length_le (by rw [List.length_drop]; omega)]
  apply ba_lists
  rw [hl, hl, app_lt, app_lt, hl]
  have h1 : (cutR R v).size = (v.data.toList.drop (v.size - keepR R)).length := by rw [← hl]; rfl
  rw [ByteArray.size_append, ByteArray.size_append, letterN_size, h1, List.length_drop]
  have h2 : v.data.toList.length = v.size := rfl
  rw [h2]
  by_cases h : v.size ≤ keepR R
  · rw [show v.size - keepR R = 0 by omega, List.drop_zero, Nat.sub_zero]
  · rw [show v.size + 1 - keepR R = (v.size - keepR R) + (v.size - (v.size - keepR R) + 1 - keepR R) by omega, ← List.drop_drop, List.drop_append_of_le_length (l₁ := v.data.toList) (by omega)]
theorem lets_of {k : Int} {s : ByteArray} (h : wordOkB k s = true) : (ltrs s).map lt97 = s.data.toList ∧ ∀ x ∈ ltrs s, (x : Int) < k := by
  have key : ∀ c ∈ s.data.toList, 97 ≤ c.toNat ∧ (c.toNat : Int) - 97 < k := fun c hc => by
    obtain ⟨j, hj, e⟩ := List.getElem_of_mem hc
    have := word_letter h (j := j) (by simpa using hj)
    rw [← e]; exact this
  refine ⟨?_, fun x hx => ?_⟩
  · unfold ltrs
    rw [List.map_map]
    have h1 : s.data.toList.map (lt97 ∘ fun c => c.toNat - 97) = s.data.toList.map id := List.map_congr_left fun c hc => by
      have h2 := (key c hc).1
      show UInt8.ofNat (97 + (c.toNat - 97)) = c
      rw [show 97 + (c.toNat - 97) = c.toNat by omega, UInt8.ofNat_toNat]
    rw [h1, List.map_id]
  · unfold ltrs at hx
    obtain ⟨c, hc, rfl⟩ := List.mem_map.1 hx
    have := key c hc
    omega
/-- from a reduced word on: the words by which it stays one -/
theorem red_acc {R : List RulD} {k : Nat} (hne : ∀ r ∈ R, r.1.size ≠ 0) (hL : LeftsP R) : ∀ (xs : List Nat) (v : ByteArray), Irr (SR R) v.data.toList → (accD (redD R) redF k (cutR R v) xs ↔ (∀ x ∈ xs, x < k) ∧ Irr (SR R) (v.data.toList ++ xs.map lt97))
  | [], v, hv => by
    rw [accD]
    exact ⟨fun _ => ⟨fun x hx => (by cases hx), by simpa using hv⟩, fun _ => rfl⟩
  | x :: xs, v, hv => by
    rw [accD]
    have e0 : v.data.toList ++ (x :: xs).map lt97 = (v ++ letterN x).data.toList ++ xs.map lt97 := by rw [app_lt]; simp
    have hd : redD R (cutR R v) x = if okX R v x = true then some (nxtX R (cutR R v) x) else none := by unfold redD; rw [okX_cut hL]
    rw [e0, hd]
    by_cases ho : okX R v x = true
    · have hi := irr_snoc hne hv ho
      have ih := red_acc (k := k) hne hL xs (v ++ letterN x) hi
      have en : nxtX R (cutR R v) x = cutR R (v ++ letterN x) := cut_cut R v x
      rw [if_pos ho, en]
      constructor
      · rintro ⟨hx, t, ht, hw⟩
        obtain rfl := Option.some.inj ht
        have := ih.1 hw
        refine ⟨fun y hy => ?_, this.2⟩
        rcases List.mem_cons.1 hy with rfl | hy
        · exact hx
        · exact this.1 y hy
      · rintro ⟨hx, hw⟩
        exact ⟨hx x List.mem_cons_self, _, rfl, ih.2 ⟨fun y hy => hx y (List.mem_cons_of_mem _ hy), hw⟩⟩
    · rw [if_neg ho]
      constructor
      · rintro ⟨_, t, ht, _⟩; cases ht
      · rintro ⟨_, hw⟩
        exact absurd (okX_irr (irr_pre hw)) ho
theorem irr_empty {R : List RulD} (hne : ∀ r ∈ R, r.1.size ≠ 0) : Irr (SR R) (⟨#[]⟩ : ByteArray).data.toList := irr_iff.2 fun p hp x y e => by
  have h1 := congrArg List.length e
  simp only [List.length_append] at h1
  have h2 : p.1.data.toList.length = p.1.size := rfl
  have := hne p hp
  simp at h1
  omega
theorem steps_irr {R : List RulD} (hne : ∀ r ∈ R, r.1.size ≠ 0) (w : ByteArray) : (stepsF R w).head? = none ↔ Irr (SR R) w.data.toList := by
  rw [List.head?_eq_none_iff]
  constructor
  · intro h v hv
    obtain ⟨s, hs, _⟩ := stp_step hne hv
    rw [h] at hs; cases hs
  · intro h
    refine List.eq_nil_iff_forall_not_mem.2 fun s hs => ?_
    exact h _ (step_stp hs)
theorem cut_empty (R : List RulD) : cutR R ⟨#[]⟩ = ⟨#[]⟩ := by
  apply ba_lists
  unfold cutR
  rw [ByteArray.data_extract, Array.toList_extract, List.extract_eq_take_drop]
  simp
/-- a word is accepted from the empty end exactly if it is reduced -/
theorem red_word {R : List RulD} {k : Nat} (hs : sysP (k : Int) R) {w : ByteArray} (hw : wordOkB (k : Nat) w = true) : accD (redD R) redF k ⟨#[]⟩ (ltrs w) ↔ (stepsF R w).head? = none := by
  have hne := sys_ne hs.1
  have h := red_acc (k := k) hne (sysG_of hs).ne (ltrs w) ⟨#[]⟩ (irr_empty hne)
  rw [cut_empty] at h
  obtain ⟨e1, e2⟩ := lets_of hw
  rw [h, e1, steps_irr hne]
  have e3 : (⟨#[]⟩ : ByteArray).data.toList ++ w.data.toList = w.data.toList := by simp
  rw [e3]
  exact ⟨fun hh => hh.2, fun hh => ⟨fun x hx => by have := e2 x hx; omega, hh⟩⟩
theorem sumN_list (k : Nat) (f : Nat → Nat) : ((List.range k).map f).sum = sumN k f := by
  induction k with
  | zero => rfl
  | succ k ih => rw [List.range_succ, List.map_append, List.sum_append, ih, sumN]; simp
/-- the accepted words are counted by the ways -/
theorem red_cnt (R : List RulD) (k : Nat) : ∀ (m : Nat) (e : ByteArray), cntD (redD R) redF k m e = paths R k m e
  | 0, e => rfl
  | m + 1, e => by
    rw [cntD, paths, sumN_list]
    refine sumN_congr fun y hy => ?_
    unfold redD
    by_cases h : okX R e y = true
    · rw [if_pos h, if_pos h]; exact red_cnt R k m _
    · rw [if_neg h, if_neg h]
end Go.Proofs.YtoddpmdjjgnpgaaGreatDoor
