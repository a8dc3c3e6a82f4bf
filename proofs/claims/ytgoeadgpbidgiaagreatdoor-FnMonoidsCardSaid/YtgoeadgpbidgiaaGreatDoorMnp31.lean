/-
  A completion, as plain data: no rule is spare, and each equation costs a turn.
-/
import Derived.Test.YtgoeadgpbidgiaaGreatDoorMnp25
import Derived.Test.YtgoeadgpbidgiaaGreatDoorMnp29
import Derived.Test.YtgoeadgpbidgiaaGreatDoorMnp15
import Derived.Test.YtgoeadgpbidgiaaGreatDoorMnp22
namespace Go.Proofs.YtgoeadgpbidgiaaGreatDoor
open Go.RowKit
set_option linter.unusedVariables false
/-- equations that a completion may start from -/
def startP (k : Int) (E : List RulD) : Prop := (1 ≤ k ∧ k ≤ 4) ∧ E.length ≤ 12 ∧ ∀ r ∈ E, sideP k r
theorem startP.work {k : Int} {E : List RulD} (h : startP k E) : WorkP k [] E 0 :=
  ⟨⟨⟨⟨h.1, by simp⟩, fun r hr => by cases hr⟩, fun r hr => by cases hr⟩, by have := h.2.1; omega, fun q hq => (h.2.2 q hq).1, by omega⟩
/-- what StartWork hands back -/
def RetSt (k : Int) (E : List RulD) (w : World) (e : Ending) (w' : World) : Prop :=
  (startP k E ∧ ∃ aQ cQ, e = .returned (.tuple #[workVal k none 0 0 aQ E.length cQ 0, .bool true]) ∧ RulesIn w' aQ E ∧ Below w.heap.size w w') ∨
  (¬ startP k E ∧ e = .returned (.tuple #[workVal 0 none 0 0 none 0 0 0, .bool false]) ∧ Below w.heap.size w w')
/-- a box of four cells is set -/
def put4 (W : World) (g : Nat) (a b c d : Value) : World := (((W.setCell ⟨g, 0, none⟩ a).setCell ⟨g, 1, none⟩ b).setCell ⟨g, 2, none⟩ c).setCell ⟨g, 3, none⟩ d
theorem put4_sets {W : World} {g : Nat} {x0 x1 x2 x3 : Value} {T : TypeId} (h : W.heap[g]? = some (.cells #[x0, x1, x2, x3] T (0, 0))) (a b c d : Value) :
    (W.frozen? ⟨g, 0, none⟩ = false ∧ W.frozen? ⟨g, 1, none⟩ = false ∧ W.frozen? ⟨g, 2, none⟩ = false ∧ W.frozen? ⟨g, 3, none⟩ = false) ∧
    ((put4 W g a b c d).cell? ⟨g, 0, none⟩ = some a ∧ (put4 W g a b c d).cell? ⟨g, 1, none⟩ = some b ∧ (put4 W g a b c d).cell? ⟨g, 2, none⟩ = some c ∧ (put4 W g a b c d).cell? ⟨g, 3, none⟩ = some d) ∧
    (W.cell? ⟨g, 0, none⟩ = some x0 ∧ W.cell? ⟨g, 1, none⟩ = some x1 ∧ W.cell? ⟨g, 2, none⟩ = some x2 ∧ W.cell? ⟨g, 3, none⟩ = some x3) ∧
    (put4 W g a b c d).heap[g]? = some (.cells #[a, b, c, d] T (0, 0)) := by
  have e : (put4 W g a b c d).heap[g]? = some (.cells #[a, b, c, d] T (0, 0)) := by
    unfold put4 World.setCell
    simp [Array.getElem?_modify, h]
  refine ⟨⟨by simp [World.frozen?, h], by simp [World.frozen?, h], by simp [World.frozen?, h], by simp [World.frozen?, h]⟩, ⟨by simp [World.cell?, e], by simp [World.cell?, e], by simp [World.cell?, e], by simp [World.cell?, e]⟩, ⟨by simp [World.cell?, h], by simp [World.cell?, h], by simp [World.cell?, h], by simp [World.cell?, h]⟩, e⟩
theorem put4_owns {W : World} {base : Nat} {T : TypeId} {size : Nat} {v : Value} {n : Nat} {xs : List Value} (h : ownsOff W base T size v n xs) {g : Nat} (hg : g < base) (a b c d : Value) : ownsOff (put4 W g a b c d) base T size v n xs :=
  (((h.setBelow (show g < base from hg) a).setBelow (show g < base from hg) b).setBelow (show g < base from hg) c).setBelow (show g < base from hg) d
theorem put4_below {B : Nat} {w W : World} (h : Below B w W) {g : Nat} (hg : B ≤ g) (a b c d : Value) : Below B w (put4 W g a b c d) := (((h.setCell (show B ≤ g from hg) a).setCell (show B ≤ g from hg) b).setCell (show B ≤ g from hg) c).setCell (show B ≤ g from hg) d
set_option maxRecDepth 100000 in
set_option maxHeartbeats 4000000 in
theorem specStartWork_any (k : Int) (E : List RulD) (a : Option Addr) (cap : Nat) (w : World) (hl : RulesIn w a E) (hlen : E.length ≤ 2 ^ 40) (hz : SzR E) :
    Calls Tryz.prog 118 #[.int .i64 k, .slice a E.length cap] w (RetSt k E w) := by
  have HL := Lib.hid hl
  have HZ := Lib.hid hz
  have HW1 := Lib.hid (alloc_belowS w (.cells #[.int .i64 0, .slice none 0 0, .slice none 0 0, .int .i64 0] 69))
  have hsz : w.heap.size < (w.alloc (.cells #[.int .i64 0, .slice none 0 0, .slice none 0 0, .int .i64 0] 69)).heap.size := by simp
  have hat := alloc_at w (.cells #[.int .i64 0, .slice none 0 0, .slice none 0 0, .int .i64 0] 69)
  have HBK : Hid (∀ W, Below (w.alloc (.cells #[.int .i64 0, .slice none 0 0, .slice none 0 0, .int .i64 0] 69)).heap.size (w.alloc (.cells #[.int .i64 0, .slice none 0 0, .slice none 0 0, .int .i64 0] 69)) W → W.heap[w.heap.size]? = some (.cells #[.int .i64 0, .slice none 0 0, .slice none 0 0, .int .i64 0] 69 (0, 0))) := Lib.hid (fun W hW => (hW.block _ hsz).trans hat)
  have HIN := Lib.hid (fun W => l01In_any k 1 4 W)
  have HSD := Lib.hid (fun (r : RulD) W (h1 : r.1.size ≤ maxLen) (h2 : r.2.size ≤ maxLen) => specSidesOk_any k r.1 r.2 W h1 h2)
  have HNO : Hid (∀ W, Below (w.alloc (.cells #[.int .i64 0, .slice none 0 0, .slice none 0 0, .int .i64 0] 69)).heap.size (w.alloc (.cells #[.int .i64 0, .slice none 0 0, .slice none 0 0, .int .i64 0] 69)) W → ¬ startP k E → RetSt k E w (.returned (.tuple #[.agg #[.int .i64 0, .slice none 0 0, .slice none 0 0, .int .i64 0], .bool false])) (put4 W w.heap.size (.int .i64 0) (.slice none 0 0) (.slice none 0 0) (.int .i64 0))) :=
    Lib.hid (fun W hW hn => .inr ⟨hn, rfl, put4_below (Below.now HW1.out hW) (Nat.le_refl _) _ _ _ _⟩)
  have HS1 := Lib.hid hsz
  clear hl hz hat hsz
  go_enter Tryz.func118, Tryz.ntmps118
  go_wp2_with fail
  generalize w.alloc (.cells #[.int .i64 0, .slice none 0 0, .slice none 0 0, .int .i64 0] 69) = w1 at *
  refine (HIN.out _).mono ?_
  rintro e w2 ⟨rfl, rfl⟩
  cases hk : inB k 1 4
  · have F := Lib.hid (HNO.out _ (Below.refl _ _) (fun h => by have h1 := h.1; unfold inB at hk; simp at hk; omega))
    obtain ⟨⟨f0, f1, f2, f3⟩, ⟨u0, u1, u2, u3⟩, ⟨q0, q1, q2, q3⟩, _⟩ := put4_sets (HBK.out _ (Below.refl _ _)) (.int .i64 0) (.slice none 0 0) (.slice none 0 0) (.int .i64 0)
    unfold put4 at F u0 u1 u2 u3
    go_wp2_with fail
    refine bodyPost_ret (v := .tuple #[.agg #[.int .i64 0, .slice none 0 0, .slice none 0 0, .int .i64 0], .bool false]) ?_ rfl F.out
    simp [results, Tryz.results118, go_sem, u0, u1, u2, u3]
  · have hk2 : 1 ≤ k ∧ k ≤ 4 := by unfold inB at hk; simp at hk; omega
    have HK := Lib.hid hk2
    clear hk2 HIN
    by_cases h12 : 12 < E.length
    · have hd : decide ((12 : Int) < (E.length : Int)) = true := by simp; omega
      have hd2 : (12 : Int) < (E.length : Int) := by omega
      have F := Lib.hid (HNO.out _ (Below.refl _ _) (fun h => by have h1 := h.2.1; omega))
      obtain ⟨⟨f0, f1, f2, f3⟩, ⟨u0, u1, u2, u3⟩, ⟨q0, q1, q2, q3⟩, _⟩ := put4_sets (HBK.out _ (Below.refl _ _)) (.int .i64 0) (.slice none 0 0) (.slice none 0 0) (.int .i64 0)
      unfold put4 at F u0 u1 u2 u3
      go_wp2_with fail
      refine bodyPost_ret (v := .tuple #[.agg #[.int .i64 0, .slice none 0 0, .slice none 0 0, .int .i64 0], .bool false]) ?_ rfl F.out
      simp [results, Tryz.results118, go_sem, u0, u1, u2, u3]
    · have hd : decide ((12 : Int) < (E.length : Int)) = false := by simp; omega
      have hd2 : ¬ (12 : Int) < (E.length : Int) := by omega
      go_wp2_with fail
      go_loopw [19] (fun vi wr => ∃ i : Nat, i ≤ E.length ∧ vi = .int .i64 (i : Nat) ∧ Below w1.heap.size w1 wr ∧ Hid (∀ j, j < i → sideP k (nthR E j))) (fun vi _ => E.length - (intOf vi).toNat)
      case atStart => exact ⟨0, Nat.zero_le _, rfl, Below.refl _ _, Lib.hid (fun j hj => by omega)⟩
      case round =>
        obtain ⟨i, hi, rfl, hbw, HD⟩ := hrel
        have HB := Lib.hid hbw
        clear hbw
        by_cases hlt : i < E.length
        · obtain ⟨b, off, rfl, hb, k0, k1⟩ := rule_at HL.out (Below.now HW1.out HB.out) hlt
          have hz := HZ.out i hlt
          have HC := Lib.hid (fun W => HSD.out (nthR E i) W hz.1 hz.2)
          have HMEM := Lib.hid (nthR_mem hlt)
          have HDS : Hid (sideP k (nthR E i) → ∀ j, j < i + 1 → sideP k (nthR E j)) := Lib.hid (fun h j hj => by
            rcases Nat.lt_succ_iff_lt_or_eq.1 hj with h1 | rfl
            · exact HD.out j h1
            · exact h)
          clear hz
          generalize nthR E i = r at *
          have HB2 := Lib.hid (Below.now HB.out (alloc_belowS wr (.cells #[.string r.1, .string r.2] 39)))
          go_wp2_with fail
          refine (HC.out _).mono ?_
          rintro e w3 ⟨bb, hbb, rfl, hb3⟩
          have HBB := Lib.hid hbb
          have HB3 := Lib.hid (Below.now HB2.out hb3)
          clear hbb hb3 k0 k1
          cases bb
          · have F := Lib.hid (HNO.out _ HB3.out (fun h => by
              have h1 := h.2.2 r HMEM.out
              have := HBB.out.2 h1
              cases this))
            obtain ⟨⟨f0, f1, f2, f3⟩, ⟨u0, u1, u2, u3⟩, ⟨q0, q1, q2, q3⟩, _⟩ := put4_sets (HBK.out _ HB3.out) (.int .i64 0) (.slice none 0 0) (.slice none 0 0) (.int .i64 0)
            unfold put4 at F u0 u1 u2 u3
            go_wp2_with fail
            refine bodyPost_ret (v := .tuple #[.agg #[.int .i64 0, .slice none 0 0, .slice none 0 0, .int .i64 0], .bool false]) ?_ rfl F.out
            simp [results, Tryz.results118, go_sem, u0, u1, u2, u3]
          · have HD2 := Lib.hid (HDS.out (HBB.out.1 rfl))
            go_wp2_with fail
            go_roundw
            case rel => exact ⟨i + 1, by omega, by go_num, HB3.out, HD2⟩
            case measure => simp [intOf]; omega
        · obtain rfl : i = E.length := by omega
          have HP : Hid (startP k E) := Lib.hid ⟨HK.out, by omega, fun r hr => by
            obtain ⟨j, hj, rfl⟩ := mem_nthR hr
            exact HD.out j hj⟩
          have HE := Lib.hid (off_empty 39 2 wr _ (Below.refl _ _))
          have HB2 := Lib.hid (alloc_belowS wr (.cells #[] 39))
          have HSR := Lib.hid (src_rules (P := Tryz.prog) Tryz.underlying25 (HL.out.later (Below.now HW1.out (Below.now HB.out HB2.out))) cap)
          generalize hW : wr = wm at *
          clear hW
          go_wp2_with (at_builtin; (refine wpList_append_off2 rfl (.tmp 31) (.tmp 32) rfl Tryz.underlying25 Tryz.infoRule rfl (by decide) (by rfl) HE.out (by simp) (by rfl) HSR.out (by unfold maxLen; omega) (by omega) ?_; intro v2 w2 ho2 hg2 _; rw [Nat.zero_add, List.nil_append] at ho2; obtain ⟨va, vc, rfl⟩ := ho2.form; have k2 : Below wm.heap.size wm w2 := Below.grown HB2.out hg2 (by simp) (fun k hk => by simp [Value.ownBlock] at hk; omega); obtain ⟨⟨f0, f1, f2, f3⟩, ⟨u0, u1, u2, u3⟩, ⟨q0, q1, q2, q3⟩, _⟩ := put4_sets (HBK.out _ (Below.now HB.out k2)) (.int .i64 k) (.slice none 0 0) (.slice va E.length vc) (.int .i64 0); have HO2 := Lib.hid ho2; have K2 := Lib.hid k2; clear ho2 hg2 k2))
          have F : Hid (RetSt k E w (.returned (.tuple #[.agg #[.int .i64 k, .slice none 0 0, .slice va E.length vc, .int .i64 0], .bool true])) (put4 w2 w.heap.size (.int .i64 k) (.slice none 0 0) (.slice va E.length vc) (.int .i64 0))) := Lib.hid (.inl ⟨HP.out, va, vc, rfl, (put4_owns HO2.out (by have := HS1.out; have := HB.out.size; omega) _ _ _ _).cells, put4_below (Below.now HW1.out (Below.now HB.out K2.out)) (Nat.le_refl _) _ _ _ _⟩)
          unfold put4 at F u0 u1 u2 u3
          refine bodyPost_ret (v := .tuple #[.agg #[.int .i64 k, .slice none 0 0, .slice va E.length vc, .int .i64 0], .bool true]) ?_ rfl F.out
          simp [results, Tryz.results118, go_sem, u0, u1, u2, u3]
end Go.Proofs.YtgoeadgpbidgiaaGreatDoor
namespace Go.Proofs.YtgoeadgpbidgiaaGreatDoor
set_option linter.unusedVariables false
/-- two sets of rules as one -/
def Uni (S Q : Rs) : Rs := fun l r => S l r ∨ Q l r
/-- a turn that drops an equation whose sides are reduced to one word -/
structure TurnOld (S Q Q' : Rs) (l0 r0 a : Wd) : Prop where
  dwn : Dwn S
  pop : ∀ l r, Q l r → (l = l0 ∧ r = r0) ∨ Q' l r
  redl : Red S l0 a
  redr : Red S r0 a
theorem TurnOld.sim {S Q Q' : Rs} {l0 r0 a : Wd} (h : TurnOld S Q Q' l0 r0 a) {n : Nat} {u v : Wd} (s : Stp (Uni S Q) u v) (hu : wt u < n) (hv : wt v < n) : Conn (Uni S Q') n u v := by
  have key : ∀ {p q : Wd}, Red S p q → wt p < n → Conn (Uni S Q') n p q := fun hr => by
    induction hr with
    | refl => intro _; exact .refl _
    | step s _ ih =>
      intro hp
      have hd := h.dwn.stp s
      exact .fwd hp (by omega) (s.mono fun l r hl => .inl hl) (ih (by omega))
  obtain ⟨x, l, r, y, h1, rfl, rfl⟩ := s
  rcases h1 with h1 | h1
  · exact .fwd hu hv ⟨x, l, r, y, .inl h1, rfl, rfl⟩ (.refl _)
  · rcases h.pop _ _ h1 with ⟨rfl, rfl⟩ | h2
    · exact (key (h.redl.ctx x y) hu).trans (key (h.redr.ctx x y) hv).symm
    · exact .fwd hu hv ⟨x, l, r, y, .inr h2, rfl, rfl⟩ (.refl _)
theorem TurnOld.crit {S Q Q' : Rs} {l0 r0 a : Wd} (h : TurnOld S Q Q' l0 r0 a) (hc : Crit S (Uni S Q)) : Crit S (Uni S Q') :=
  ⟨fun l1 r1 l2 r2 x y h1 h2 e => (hc.inn l1 r1 l2 r2 x y h1 h2 e).sim (fun _ _ s hu hv => h.sim s hu hv), fun l1 r1 l2 r2 x t y h1 h2 e1 e2 e3 e4 e5 => (hc.acr l1 r1 l2 r2 x t y h1 h2 e1 e2 e3 e4 e5).sim (fun _ _ s hu hv => h.sim s hu hv)⟩
/-- the rules that are kept, and the new one -/
def AllR (kept : Rs) (ln rn : Wd) : Rs := fun l r => kept l r ∨ (l = ln ∧ r = rn)
/-- a turn that makes a rule -/
structure TurnNew (S Q S' Q' kept : Rs) (l0 r0 ln rn : Wd) : Prop where
  dwn : Dwn S
  sub : ∀ l r, kept l r → S l r
  pop : ∀ l r, Q l r → (l = l0 ∧ r = r0) ∨ Q' l r
  red : (Red S l0 ln ∧ Red S r0 rn) ∨ (Red S l0 rn ∧ Red S r0 ln)
  less : wt rn < wt ln
  old : ∀ l r, S l r → Q' l r ∨ ∃ r2, kept l r ∧ S' l r2 ∧ Red (AllR kept ln rn) r r2
  new : S' ln rn
  inv : ∀ l r2, S' l r2 → (l = ln ∧ r2 = rn) ∨ ∃ r, kept l r ∧ Red (AllR kept ln rn) r r2
  inn1 : ∀ l r x y, S' l r → ln = x ++ (l ++ y) → (x = [] ∧ y = [] ∧ r = rn) ∨ Q' rn (x ++ (r ++ y))
  inn2 : ∀ l r x y, S' l r → l = x ++ (ln ++ y) → (x = [] ∧ y = [] ∧ r = rn) ∨ Q' r (x ++ (rn ++ y))
  acr1 : ∀ l r x t y, S' l r → ln = x ++ t → l = t ++ y → t ≠ [] → x ≠ [] → y ≠ [] → Q' (rn ++ y) (x ++ r)
  acr2 : ∀ l r x t y, S' l r → l = x ++ t → ln = t ++ y → t ≠ [] → x ≠ [] → y ≠ [] → Q' (r ++ y) (x ++ rn)
section
variable {S Q S' Q' kept : Rs} {l0 r0 ln rn : Wd}
theorem TurnNew.dall (h : TurnNew S Q S' Q' kept l0 r0 ln rn) : Dwn (AllR kept ln rn) := fun l r hl => by
  rcases hl with hl | ⟨rfl, rfl⟩
  · exact h.dwn _ _ (h.sub _ _ hl)
  · exact h.less
theorem TurnNew.dnew (h : TurnNew S Q S' Q' kept l0 r0 ln rn) : Dwn S' := fun l r hl => by
  rcases h.inv _ _ hl with ⟨rfl, rfl⟩ | ⟨r1, h1, h2⟩
  · exact h.less
  · have h3 := h2.le h.dall
    have h4 := h.dwn _ _ (h.sub _ _ h1)
    omega
theorem TurnNew.simS (h : TurnNew S Q S' Q' kept l0 r0 ln rn) : ∀ (k : Nat) (u v : Wd), wt u < k → Stp S u v → ∀ n, wt u < n → Conn (Uni S' Q') n u v
  | 0, u, v, hk, _, _, _ => by omega
  | k + 1, u, v, hk, s, n, hn => by
    have hd := h.dwn.stp s
    obtain ⟨x, l, r, y, h1, rfl, rfl⟩ := s
    rcases h.old _ _ h1 with h2 | ⟨r2, h2, h3, h4⟩
    · exact .fwd hn (by omega) ⟨x, l, r, y, .inr h2, rfl, rfl⟩ (.refl _)
    · have key : ∀ {p q : Wd}, Red (AllR kept ln rn) p q → wt p < k → wt p < n → Conn (Uni S' Q') n p q := fun hr => by
        induction hr with
        | refl => intro _ _; exact .refl _
        | step s _ ih =>
          intro hp1 hp2
          have hd2 := h.dall.stp s
          refine Conn.trans ?_ (ih (by omega) (by omega))
          obtain ⟨x2, l2, r2, y2, h5, rfl, rfl⟩ := s
          rcases h5 with h5 | ⟨rfl, rfl⟩
          · exact h.simS k _ _ hp1 ⟨x2, l2, r2, y2, h.sub _ _ h5, rfl, rfl⟩ n hp2
          · exact .fwd hp2 (by omega) ⟨x2, _, _, y2, .inl h.new, rfl, rfl⟩ (.refl _)
      have h5 := (h4.ctx x y).le h.dall
      exact .fwd hn (by omega) ⟨x, l, r2, y, .inl h3, rfl, rfl⟩ (key (h4.ctx x y) (by omega) (by omega)).symm
theorem TurnNew.simR (h : TurnNew S Q S' Q' kept l0 r0 ln rn) {n : Nat} {u v : Wd} (hr : Red S u v) (hu : wt u < n) : Conn (Uni S' Q') n u v := by
  induction hr with
  | refl => exact .refl _
  | step s _ ih =>
    have hd := h.dwn.stp s
    exact (h.simS _ _ _ (Nat.lt_succ_self _) s n hu).trans (ih (by omega))
theorem TurnNew.simA (h : TurnNew S Q S' Q' kept l0 r0 ln rn) {n : Nat} {u v : Wd} (hr : Red (AllR kept ln rn) u v) (hu : wt u < n) : Conn (Uni S' Q') n u v := by
  induction hr with
  | refl => exact .refl _
  | step s _ ih =>
    have hd := h.dall.stp s
    refine Conn.trans ?_ (ih (by omega))
    obtain ⟨x2, l2, r2, y2, h5, rfl, rfl⟩ := s
    rcases h5 with h5 | ⟨rfl, rfl⟩
    · exact h.simS _ _ _ (Nat.lt_succ_self _) ⟨x2, l2, r2, y2, h.sub _ _ h5, rfl, rfl⟩ n hu
    · exact .fwd hu (by omega) ⟨x2, _, _, y2, .inl h.new, rfl, rfl⟩ (.refl _)
theorem TurnNew.sim (h : TurnNew S Q S' Q' kept l0 r0 ln rn) {n : Nat} {u v : Wd} (s : Stp (Uni S Q) u v) (hu : wt u < n) (hv : wt v < n) : Conn (Uni S' Q') n u v := by
  obtain ⟨x, l, r, y, h1, rfl, rfl⟩ := s
  rcases h1 with h1 | h1
  · exact h.simS _ _ _ (Nat.lt_succ_self _) ⟨x, l, r, y, h1, rfl, rfl⟩ n hu
  · rcases h.pop _ _ h1 with ⟨rfl, rfl⟩ | h2
    · have e1 : Stp (Uni S' Q') (x ++ (ln ++ y)) (x ++ (rn ++ y)) := ⟨x, ln, rn, y, .inl h.new, rfl, rfl⟩
      rcases h.red with ⟨ha, hb⟩ | ⟨ha, hb⟩
      · have w1 := (ha.ctx x y).le h.dwn
        have w2 := (hb.ctx x y).le h.dwn
        exact (h.simR (ha.ctx x y) hu).trans (.fwd (by omega) (by omega) e1 (h.simR (hb.ctx x y) hv).symm)
      · have w1 := (ha.ctx x y).le h.dwn
        have w2 := (hb.ctx x y).le h.dwn
        exact (h.simR (ha.ctx x y) hu).trans (.bwd (by omega) (by omega) e1 (h.simR (hb.ctx x y) hv).symm)
    · exact .fwd hu hv ⟨x, l, r, y, .inr h2, rfl, rfl⟩ (.refl _)
theorem TurnNew.crit (h : TurnNew S Q S' Q' kept l0 r0 ln rn) (hc : Crit S (Uni S Q)) : Crit S' (Uni S' Q') := by
  have hd := h.dnew
  refine ⟨fun l1 r1 l2 r2 x y h1 h2 e => ?_, fun l1 r1 l2 r2 x t y h1 h2 e1 e2 e3 e4 e5 => ?_⟩
  · have d1 := hd _ _ h1
    have d2 : wt (x ++ (r2 ++ y)) < wt l1 := by rw [e]; exact wt_ctx x y (hd _ _ h2)
    rcases h.inv _ _ h1 with ⟨rfl, rfl⟩ | ⟨q1, k1, m1⟩
    · rcases h.inn1 _ _ _ _ h2 e with ⟨rfl, rfl, rfl⟩ | hq
      · simpa using Conn.refl _
      · exact .fwd d1 d2 (Stp.rule (.inr hq)) (.refl _)
    · rcases h.inv _ _ h2 with ⟨rfl, rfl⟩ | ⟨q2, k2, m2⟩
      · rcases h.inn2 _ _ _ _ h1 e with ⟨rfl, rfl, rfl⟩ | hq
        · simpa using Conn.refl _
        · exact .fwd d1 d2 (Stp.rule (.inr hq)) (.refl _)
      · have c := (hc.inn _ _ _ _ _ _ (h.sub _ _ k1) (h.sub _ _ k2) e).sim (fun _ _ s hu hv => h.sim s hu hv)
        have b1 := h.dwn _ _ (h.sub _ _ k1)
        have b2 : wt (x ++ (q2 ++ y)) < wt l1 := by rw [e]; exact wt_ctx x y (h.dwn _ _ (h.sub _ _ k2))
        exact (h.simA m1 b1).symm.trans (c.trans (h.simA (m2.ctx x y) b2))
  · have d1 : wt (r1 ++ y) < wt (x ++ (t ++ y)) := by
      have := wt_ctx [] y (hd _ _ h1)
      rw [e1] at this
      simpa [List.append_assoc] using this
    have d2 : wt (x ++ r2) < wt (x ++ (t ++ y)) := by
      have := wt_ctx x [] (hd _ _ h2)
      rw [e2] at this
      simpa [List.append_assoc] using this
    rcases h.inv _ _ h1 with ⟨rfl, rfl⟩ | ⟨q1, k1, m1⟩
    · exact .fwd d1 d2 (Stp.rule (.inr (h.acr1 _ _ _ _ _ h2 e1 e2 e3 e4 e5))) (.refl _)
    · rcases h.inv _ _ h2 with ⟨rfl, rfl⟩ | ⟨q2, k2, m2⟩
      · exact .fwd d1 d2 (Stp.rule (.inr (h.acr2 _ _ _ _ _ h1 e1 e2 e3 e4 e5))) (.refl _)
      · have c := (hc.acr _ _ _ _ _ _ _ (h.sub _ _ k1) (h.sub _ _ k2) e1 e2 e3 e4 e5).sim (fun _ _ s hu hv => h.sim s hu hv)
        have b1 : wt (q1 ++ y) < wt (x ++ (t ++ y)) := by
          have := wt_ctx [] y (h.dwn _ _ (h.sub _ _ k1))
          rw [e1] at this
          simpa [List.append_assoc] using this
        have b2 : wt (x ++ q2) < wt (x ++ (t ++ y)) := by
          have := wt_ctx x [] (h.dwn _ _ (h.sub _ _ k2))
          rw [e2] at this
          simpa [List.append_assoc] using this
        have m1' : Red (AllR kept ln rn) (q1 ++ y) (r1 ++ y) := by simpa using m1.ctx [] y
        have m2' : Red (AllR kept ln rn) (x ++ q2) (x ++ r2) := by simpa using m2.ctx x []
        exact (h.simA m1' b1).symm.trans (c.trans (h.simA m2' b2))
end
end Go.Proofs.YtgoeadgpbidgiaaGreatDoor
namespace Go.Proofs.YtgoeadgpbidgiaaGreatDoor
open Go.RowKit
set_option linter.unusedVariables false
theorem nextF_last (R : List RulD) (r : RulD) : nthR (nextF R r) ((nextF R r).length - 1) = r := by
  have h := nextF_len R r
  have h2 : (mapF R r (keptF R r.1)).length = (keptF R r.1).length := by unfold mapF; rw [List.length_map]
  rw [nthR_lt (by omega)]
  unfold nextF at h ⊢
  rw [List.getElem_append_right (by rw [h]; omega)]
  simp
theorem own_ctx {l x y : List UInt8} (h : l = x ++ (l ++ y)) : x = [] ∧ y = [] := by
  have := congrArg List.length h
  simp only [List.length_append] at this
  exact ⟨List.eq_nil_of_length_eq_zero (by omega), List.eq_nil_of_length_eq_zero (by omega)⟩
theorem turn_old {k : Int} {R Qt : List RulD} {q : RulD} (hs : sysP k R) (hq : wordOkB k q.1 = true ∧ wordOkB k q.2 = true) (he : nfC R q.1 = nfC R q.2) :
    TurnOld (SR R) (SR (q :: Qt)) (SR Qt) q.1.data.toList q.2.data.toList (nfC R q.1).data.toList := by
  refine ⟨sys_dwn hs, ?_, (nfC_red hs.weak hq.1).1, by rw [he]; exact (nfC_red hs.weak hq.2).1⟩
  rintro _ _ ⟨p, hp, rfl, rfl⟩
  rcases List.mem_cons.1 hp with rfl | hp
  · exact .inl ⟨rfl, rfl⟩
  · exact .inr ⟨p, hp, rfl, rfl⟩
theorem turn_new {k : Int} {R Qt : List RulD} {q r : RulD} (hs : sysP k R) (hq : wordOkB k q.1 = true ∧ wordOkB k q.2 = true) (hne : ¬ nfC R q.1 = nfC R q.2) (hor : orF2 (nfC R q.1) (nfC R q.2) = r) (hr : NewR k r) (h12 : ¬ 12 < (nextF R r).length) :
    TurnNew (SR R) (SR (q :: Qt)) (SR (nextF R r)) (SR (Qt ++ goneF R r.1 ++ newQ (nextF R r))) (SR (keptF R r.1)) q.1.data.toList q.2.data.toList r.1.data.toList r.2.data.toList := by
  have hN := nextF_sys hs hr h12
  have hNne := sys_ne hN.1
  have ha := allF_sys hs hr
  have hlast := nextF_last R r
  have hlen := nextF_len R r
  have hll : (nextF R r).length - 1 < (nextF R r).length := by omega
  have hrne := less_ne hr.less
  have inQ : ∀ {i j : Nat} {p : PairD}, i < (nextF R r).length → j < (nextF R r).length → (p ∈ inF (nextF R r) i j ∨ p ∈ acF (nextF R r) i j) → lastP (nextF R r) p = true → SR (Qt ++ goneF R r.1 ++ newQ (nextF R r)) (leftP (nextF R r) p).data.toList (rightP (nextF R r) p).data.toList := fun hi hj hp hl =>
    ⟨sidesF (nextF R r) _, List.mem_append.2 (.inr (List.mem_map.2 ⟨_, List.mem_filter.2 ⟨mem_pairs hi hj hp, hl⟩, rfl⟩)), rfl, rfl⟩
  have redA : ∀ {u : ByteArray}, wordOkB k u = true → Red (AllR (SR (keptF R r.1)) r.1.data.toList r.2.data.toList) u.data.toList (nfC (allF R r) u).data.toList := fun hu =>
    (nfC_red ha hu).1.mono (by
      rintro _ _ ⟨p, hp, rfl, rfl⟩
      rcases List.mem_append.1 hp with hp | hp
      · exact .inl ⟨p, hp, rfl, rfl⟩
      · rw [List.mem_singleton.1 hp]; exact .inr ⟨rfl, rfl⟩)
  refine ⟨sys_dwn hs, ?_, ?_, ?_, lessS_wt hr.less, ?_, ?_, ?_, ?_, ?_, ?_, ?_⟩
  · rintro _ _ ⟨p, hp, rfl, rfl⟩
    exact ⟨p, (List.mem_filter.1 hp).1, rfl, rfl⟩
  · rintro _ _ ⟨p, hp, rfl, rfl⟩
    rcases List.mem_cons.1 hp with rfl | hp
    · exact .inl ⟨rfl, rfl⟩
    · exact .inr ⟨p, List.mem_append.2 (.inl (List.mem_append.2 (.inl hp))), rfl, rfl⟩
  · have h1 := (nfC_red hs.weak hq.1).1
    have h2 := (nfC_red hs.weak hq.2).1
    rcases orF2_cases (nfC R q.1) (nfC R q.2) with e | e <;> rw [e] at hor <;> subst hor
    · exact .inr ⟨h1, h2⟩
    · exact .inl ⟨h1, h2⟩
  · rintro _ _ ⟨p, hp, rfl, rfl⟩
    cases hb : hasB p.1 r.1
    · refine .inr ⟨_, ⟨p, List.mem_filter.2 ⟨hp, by rw [hb]; rfl⟩, rfl, rfl⟩, ⟨(p.1, nfC (allF R r) p.2), nextF_mem.2 (.inl ⟨p, List.mem_filter.2 ⟨hp, by rw [hb]; rfl⟩, rfl⟩), rfl, rfl⟩, redA (hs.1.2 p hp).1.1.2⟩
    · exact .inl ⟨p, List.mem_append.2 (.inl (List.mem_append.2 (.inr (List.mem_filter.2 ⟨hp, hb⟩)))), rfl, rfl⟩
  · exact ⟨r, nextF_mem.2 (.inr rfl), rfl, rfl⟩
  · rintro _ _ ⟨p, hp, rfl, rfl⟩
    rcases nextF_mem.1 hp with ⟨q2, hq2, rfl⟩ | rfl
    · exact .inr ⟨_, ⟨q2, hq2, rfl, rfl⟩, redA (hs.1.2 q2 ((List.mem_filter.1 hq2).1)).1.1.2⟩
    · exact .inl ⟨rfl, rfl⟩
  · rintro _ _ x y ⟨p, hp, rfl, rfl⟩ e
    obtain ⟨j, hj, rfl⟩ := mem_nthR hp
    by_cases hjl : j = (nextF R r).length - 1
    · subst hjl
      rw [hlast] at e ⊢
      obtain ⟨rfl, rfl⟩ := own_ctx e
      exact .inl ⟨rfl, rfl, rfl⟩
    · have e2 : (nthR (nextF R r) ((nextF R r).length - 1)).1.data.toList = x ++ ((nthR (nextF R r) j).1.data.toList ++ y) := by rw [hlast]; exact e
      obtain ⟨h1, h2, h3⟩ := pair_in (R := nextF R r) (fun h => hjl h.symm) (hNne _ hp) e2
      have h4 := inQ hll hj (.inl h1) (by simp [lastP, inP])
      rw [h2, h3, hlast] at h4
      exact .inr h4
  · rintro _ _ x y ⟨p, hp, rfl, rfl⟩ e
    obtain ⟨j, hj, rfl⟩ := mem_nthR hp
    by_cases hjl : j = (nextF R r).length - 1
    · subst hjl
      rw [hlast] at e ⊢
      obtain ⟨rfl, rfl⟩ := own_ctx e
      exact .inl ⟨rfl, rfl, rfl⟩
    · have e2 : (nthR (nextF R r) j).1.data.toList = x ++ ((nthR (nextF R r) ((nextF R r).length - 1)).1.data.toList ++ y) := by rw [hlast]; exact e
      obtain ⟨h1, h2, h3⟩ := pair_in (R := nextF R r) hjl (by rw [hlast]; exact hrne) e2
      have h4 := inQ hj hll (.inl h1) (by simp [lastP, inP])
      rw [h2, h3, hlast] at h4
      exact .inr h4
  · rintro _ _ x t y ⟨p, hp, rfl, rfl⟩ e1 e2 ht hx hy
    obtain ⟨j, hj, rfl⟩ := mem_nthR hp
    have e3 : (nthR (nextF R r) ((nextF R r).length - 1)).1.data.toList = x ++ t := by rw [hlast]; exact e1
    obtain ⟨h1, _, h2, h3⟩ := pair_ac (R := nextF R r) e3 e2 ht hx hy
    have h4 := inQ hll hj (.inr h1) (by simp [lastP, acP])
    rw [h2, h3, hlast] at h4
    exact h4
  · rintro _ _ x t y ⟨p, hp, rfl, rfl⟩ e1 e2 ht hx hy
    obtain ⟨j, hj, rfl⟩ := mem_nthR hp
    have e3 : (nthR (nextF R r) ((nextF R r).length - 1)).1.data.toList = t ++ y := by rw [hlast]; exact e2
    obtain ⟨h1, _, h2, h3⟩ := pair_ac (R := nextF R r) e1 e3 ht hx hy
    have h4 := inQ hj hll (.inr h1) (by simp [lastP, acP])
    rw [h2, h3, hlast] at h4
    exact h4
/-- what a turn keeps: pairs stay connected, and what was connected by rules and equations -/
structure KeepsK (R Q R' Q' : List RulD) : Prop where
  crit : Crit (SR R) (Uni (SR R) (SR Q)) → Crit (SR R') (Uni (SR R') (SR Q'))
  sim : ∀ (n : Nat) (u v : List UInt8), Stp (Uni (SR R) (SR Q)) u v → wt u < n → wt v < n → Conn (Uni (SR R') (SR Q')) n u v
theorem KeepsK.trans {R Q R1 Q1 R2 Q2 : List RulD} (a : KeepsK R Q R1 Q1) (b : KeepsK R1 Q1 R2 Q2) : KeepsK R Q R2 Q2 :=
  ⟨fun h => b.crit (a.crit h), fun n u v s hu hv => (a.sim n u v s hu hv).sim (fun u v s hu hv => b.sim n u v s hu hv)⟩
theorem KeepsK.refl (R Q : List RulD) : KeepsK R Q R Q := ⟨fun h => h, fun n u v s hu hv => .fwd hu hv s (.refl _)⟩
theorem WorkP.keeps {k : Int} {R Q : List RulD} {T : Nat} (h : WorkP k R Q T) (hQ : Q ≠ []) (hc : (turnF R Q T).1 = 0) : KeepsK R Q (turnF R Q T).2.1 (turnF R Q T).2.2.1 := by
  cases Q with
  | nil => exact absurd rfl hQ
  | cons q Qt =>
    have hq := h.word q List.mem_cons_self
    unfold turnF at hc ⊢
    simp only at hc ⊢
    by_cases c1 : T = 200
    · rw [if_pos c1] at hc; cases hc
    rw [if_neg c1] at hc ⊢
    by_cases c2 : nfC R q.1 = nfC R q.2
    · rw [if_pos c2]
      have t := turn_old (Qt := Qt) h.sys hq c2
      exact ⟨t.crit, fun n u v s hu hv => t.sim s hu hv⟩
    rw [if_neg c2] at hc ⊢
    by_cases c3 : 8 < (orF2 (nfC R q.1) (nfC R q.2)).1.size
    · rw [if_pos c3] at hc; cases hc
    rw [if_neg c3] at hc ⊢
    by_cases c4 : 12 < (nextF R (orF2 (nfC R q.1) (nfC R q.2))).length
    · rw [if_pos c4] at hc; cases hc
    rw [if_neg c4] at hc ⊢
    by_cases c5 : 400 < (Qt ++ goneF R (orF2 (nfC R q.1) (nfC R q.2)).1 ++ newQ (nextF R (orF2 (nfC R q.1) (nfC R q.2)))).length
    · rw [if_pos c5] at hc; cases hc
    rw [if_neg c5]
    have t := turn_new (Qt := Qt) h.sys hq c2 rfl (orF2_new h.sys hq c2 c3) c4
    exact ⟨t.crit, fun n u v s hu hv => t.sim s hu hv⟩
theorem RunIs.work {k : Int} {R Q : List RulD} {T c : Nat} {R' Q' : List RulD} {T' : Nat} (r : RunIs R Q T c R' Q' T') (h : WorkP k R Q T) : WorkP k R' Q' T' ∧ KeepsK R Q R' Q' ∧ (c = 0 → Q' = []) := by
  induction r with
  | done => exact ⟨h, .refl _ _, fun _ => rfl⟩
  | fail _ h2 => exact ⟨h, .refl _ _, fun h3 => absurd h3 h2⟩
  | step h1 h2 _ ih =>
    obtain ⟨i1, i2, i3⟩ := ih (h.turn h2)
    exact ⟨i1, (h.keeps h1 h2).trans i2, i3⟩
theorem uni_nil {R : List RulD} {l r : List UInt8} (h : Uni (SR R) (SR []) l r) : SR R l r := by
  rcases h with h | ⟨p, hp, _⟩
  · exact h
  · cases hp
/-- a completion that starts without rules and ends well -/
theorem run_comp {k : Int} {Q R' Q' : List RulD} {T' : Nat} (h : WorkP k [] Q 0) (r : RunIs [] Q 0 0 R' Q' T') :
    ComplP k R' ∧ ∀ q ∈ Q, ∀ x y, NormIs R' q.1 x → NormIs R' q.2 y → x = y := by
  obtain ⟨h1, h2, h3⟩ := r.work h
  obtain rfl := h3 rfl
  have c0 : Crit (SR []) (Uni (SR []) (SR Q)) := ⟨fun l1 r1 l2 r2 x y ⟨p, hp, _⟩ => (by cases hp), fun l1 r1 l2 r2 x t y ⟨p, hp, _⟩ => (by cases hp)⟩
  have toS : ∀ {n : Nat} {u v : List UInt8}, Conn (Uni (SR R') (SR [])) n u v → Conn (SR R') n u v := fun c => c.sim (fun u v s hu hv => .fwd hu hv (s.mono fun l r h => uni_nil h) (.refl _))
  have c1 := h2.crit c0
  have c2 : Crit (SR R') (SR R') := ⟨fun l1 r1 l2 r2 x y a b e => toS (c1.inn l1 r1 l2 r2 x y a b e), fun l1 r1 l2 r2 x t y a b e1 e2 e3 e4 e5 => toS (c1.acr l1 r1 l2 r2 x t y a b e1 e2 e3 e4 e5)⟩
  refine ⟨comp_of_crit h1.sys c2, fun q hq x y hx hy => ?_⟩
  have s : Stp (Uni (SR []) (SR Q)) q.1.data.toList q.2.data.toList := Stp.rule (.inr ⟨q, hq, rfl, rfl⟩)
  have c := toS (h2.sim (max (wt q.1.data.toList) (wt q.2.data.toList) + 1) _ _ s (by omega) (by omega))
  exact ba_lists (conf_conn (sys_dwn h1.sys) c2 c (norm_nf (sys_ne h1.sys.1) hx) (norm_nf (sys_ne h1.sys.1) hy))
end Go.Proofs.YtgoeadgpbidgiaaGreatDoor
namespace Go.Proofs.YtgoeadgpbidgiaaGreatDoor
open Go.RowKit
set_option linter.unusedVariables false
/-- no rule is spare -/
structure InterP (R : List RulD) : Prop where
  left : R.Pairwise fun p q => hasB p.1 q.1 = false ∧ hasB q.1 p.1 = false
  right : ∀ p ∈ R, ∀ q ∈ R, hasB p.2 q.1 = false
theorem InterP.nil : InterP [] := ⟨.nil, fun p hp => by cases hp⟩
theorem irr_has {R : List RulD} {v : ByteArray} (h : Irr (SR R) v.data.toList) {q : RulD} (hq : q ∈ R) (hne : q.1.size ≠ 0) : hasB v q.1 = false := by
  cases hb : hasB v q.1
  · rfl
  · obtain ⟨x, y, e⟩ := (hasB_iff hne).1 hb
    exact absurd ⟨x, q.1.data.toList, q.2.data.toList, y, ⟨q, hq, rfl, rfl⟩, e, rfl⟩ (h (x ++ (q.2.data.toList ++ y)))
theorem less_has {a b : ByteArray} (h : lessS a b = true) : hasB a b = false := by
  cases hb : hasB a b
  · rfl
  · obtain ⟨x, y, e⟩ := (hasB_iff (less_ne h)).1 hb
    have h1 := lessS_size h
    have e1 : a.data.toList.length = a.size := rfl
    have e2 : b.data.toList.length = b.size := rfl
    have e3 := congrArg List.length e
    simp only [List.length_append] at e3
    obtain rfl : x = [] := List.eq_nil_of_length_eq_zero (by omega)
    obtain rfl : y = [] := List.eq_nil_of_length_eq_zero (by omega)
    have e4 : a = b := ba_lists (by simpa using e)
    have h2 := lessS_wt h
    rw [e4] at h2
    omega
theorem InterP.next {k : Int} {R : List RulD} (h : InterP R) (hs : sysP k R) {r : RulD} (hr : NewR k r) (h1 : Irr (SR R) r.1.data.toList) (h2 : Irr (SR R) r.2.data.toList) : InterP (nextF R r) := by
  have ha := allF_sys hs hr
  have hne := sysW_ne ha
  have hneR := sys_ne hs.1
  have hK : ∀ x ∈ keptF R r.1, x ∈ R ∧ hasB x.1 r.1 = false := fun x hx => by
    have := List.mem_filter.1 hx
    exact ⟨this.1, by simpa using this.2⟩
  have inA : ∀ x ∈ keptF R r.1, x ∈ allF R r := fun x hx => List.mem_append.2 (.inl hx)
  have rA : r ∈ allF R r := List.mem_append.2 (.inr (List.mem_singleton.2 rfl))
  refine ⟨?_, fun p hp q hq => ?_⟩
  · unfold nextF mapF
    rw [List.pairwise_append]
    refine ⟨?_, List.pairwise_singleton _ _, fun a hA b hB => ?_⟩
    · rw [List.pairwise_map]
      exact (h.left.filter _)
    · obtain ⟨x, hx, rfl⟩ := List.mem_map.1 hA
      obtain rfl := List.mem_singleton.1 hB
      exact ⟨(hK x hx).2, irr_has (q := x) h1 (hK x hx).1 (hneR x (hK x hx).1)⟩
  · rcases nextF_mem.1 hp with ⟨x, hx, rfl⟩ | rfl
    · have hI := (nfC_red ha (hs.1.2 x (hK x hx).1).1.1.2).2
      rcases nextF_mem.1 hq with ⟨y, hy, rfl⟩ | rfl
      · exact irr_has (q := y) hI (inA y hy) (hne y (inA y hy))
      · exact irr_has hI rA (hne _ rA)
    · rcases nextF_mem.1 hq with ⟨y, hy, rfl⟩ | rfl
      · exact irr_has (q := y) h2 (hK y hy).1 (hneR y (hK y hy).1)
      · exact less_has hr.less
/-- a run there is -/
theorem RunIs.ex {k : Int} : ∀ (n : Nat) (R Q : List RulD) (T : Nat), 200 - T < n → WorkP k R Q T → ∃ c R' Q' T', RunIs R Q T c R' Q' T'
  | 0, R, Q, T, hn, h => by omega
  | n + 1, R, Q, T, hn, h => by
    cases hQ : Q with
    | nil => exact ⟨0, R, [], T, .done⟩
    | cons q Qt =>
      by_cases hc : (turnF R (q :: Qt) T).1 = 0
      · rw [hQ] at h
        have h2 := h.turn hc
        have hne : q :: Qt ≠ [] := by simp
        have hT : (turnF R (q :: Qt) T).2.2.2 = T + 1 ∧ T ≠ 200 := by
          unfold turnF at hc ⊢
          simp only at hc ⊢
          by_cases c1 : T = 200
          · rw [if_pos c1] at hc; cases hc
          refine ⟨?_, c1⟩
          rw [if_neg c1] at hc ⊢
          split
          · rfl
          · rename_i c2
            rw [if_neg c2] at hc
            split
            · rename_i c3; rw [if_pos c3] at hc; cases hc
            · rename_i c3
              rw [if_neg c3] at hc
              split
              · rename_i c4; rw [if_pos c4] at hc; cases hc
              · rename_i c4
                rw [if_neg c4] at hc
                split
                · rename_i c5; rw [if_pos c5] at hc; cases hc
                · rfl
        have ht := h.turns
        obtain ⟨c, R', Q', T', r⟩ := RunIs.ex n _ _ _ (by rw [hT.1]; omega) h2
        exact ⟨c, R', Q', T', .step hne hc r⟩
      · exact ⟨_, _, _, _, .fail (by simp) hc⟩
end Go.Proofs.YtgoeadgpbidgiaaGreatDoor
