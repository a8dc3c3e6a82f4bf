/-
  The map of dead ends: plain data.
-/
import Derived.Test.YtggfhephdcnpcaaGreatDoorGrp17
import Derived.Test.YtggfhephdcnpcaaGreatDoorGrp33
import Derived.Maps.OwnSet
namespace Go.Proofs.YtggfhephdcnpcaaGreatDoor
open Go.RowKit Go.Maps
set_option linter.unusedVariables false
/-- the map of dead ends -/
abbrev OwnD (w : World) (b m : Nat) (D : DataW Unit) : Prop := w.ownsMap Tryz.prog 243 (plainElem (H := Unit) Tryz.prog 4) b m D
/-- what newReader hands back -/
def RetRd2 (k : Int) (a : Option Addr) (n cap q : Nat) (w : World) (e : Ending) (w' : World) : Prop := ∃ p b, e = .returned (.pointer (some ⟨p, 0, none⟩)) ∧ RdAt w' p k a n cap q ∧ w'.cell? ⟨p, 3, none⟩ = some (.map (some b)) ∧ OwnD w' b 0 (.map []) ∧ w.heap.size ≤ p ∧ w.heap.size ≤ b ∧ b ≠ p ∧ Below w.heap.size w w'
set_option maxRecDepth 20000 in
set_option maxHeartbeats 2000000 in
theorem newReader2_any (k : Int) (l : List RulD) (a : Option Addr) (cap : Nat) (w : World) (hl : RulesIn w a l) (hlen : l.length ≤ 2 ^ 40) (hz : SzR l) :
    Calls Tryz.prog 84 #[.agg #[.int .i64 k, .slice a l.length cap]] w (RetRd2 k a l.length cap (keepR l) w) := by
  have HL := Lib.hid hl
  have HS := Lib.hid (fun W h => implLongestSide_any k l a cap W h hlen hz)
  have hm := lsTo_le hz l.length (Nat.le_refl _)
  have hm2 : lsL l ≤ 9223372036854775807 := by unfold maxLen at hm; exact hm
  have hmm := @run_makeMap Tryz.prog
  have HC : Hid (keepR l = lsL l - 1) := Lib.hid rfl
  generalize keepR l = q at *
  generalize lsL l = m at *
  have e1 : max (0 : Int) ((m : Int) - 1) = (q : Int) := by have := HC.out; omega
  have hw1 : IntKind.i64.wrap ((m : Int) - 1) = (m : Int) - 1 := IntWalk.i64_in _ (by omega)
  have hb0 := alloc_belowS w (.cells #[.int .i64 k, .slice a l.length cap] 29)
  clear hl hz hm
  go_enter Tryz.func84, Tryz.ntmps84
  go_wp2_with fail
  obtain ⟨w0, hw0⟩ : ∃ w0, w0 = w.alloc (.cells #[.int .i64 k, .slice a l.length cap] 29) := ⟨_, rfl⟩
  have hbx := sys_cells (alloc_at w (.cells #[.int .i64 k, .slice a l.length cap] 29))
  rw [← hw0] at hb0 hbx
  have HBX : Hid (∀ W, Below w0.heap.size w0 W → W.cell? ⟨w.heap.size, 0, none⟩ = some (.int .i64 k) ∧ W.cell? ⟨w.heap.size, 1, none⟩ = some (.slice a l.length cap)) := Lib.hid (fun W hW => ⟨by rw [hW.cell (World.block_lt_of_cell? w0 _ hbx.1)]; exact hbx.1, by rw [hW.cell (World.block_lt_of_cell? w0 _ hbx.2)]; exact hbx.2⟩)
  have HB0 := Lib.hid hb0
  rw [← hw0]
  obtain ⟨r0, r1⟩ := hbx
  clear hw0 hb0
  go_region_held3 (fun w' => w'.cell? ⟨w.heap.size, 0, none⟩ = some (.int .i64 k) ∧ w'.cell? ⟨w.heap.size, 1, none⟩ = some (.slice a l.length cap)) (go_keep) (first
    | (go_at_call 148; refine (HS.out _ (HL.out.later (Below.now HB0.out (by repeat (first | exact Below.refl _ _ | refine Below.drew ?_ | refine below_drewN ?_ _ | refine Below.alloc ?_ (by simp; try omega) _))))).mono ?_; rintro e w6 ⟨rfl, hb6⟩; have HB6 := Lib.hid hb6; have K6 : Hid (Below w0.heap.size w0 w6) := Lib.hid (Below.now (by repeat (first | exact Below.refl _ _ | refine Below.drew ?_ | refine below_drewN ?_ _ | refine Below.alloc ?_ (by simp; try omega) _)) hb6); have t0 := (HBX.out w6 K6.out).1; have t1 := (HBX.out w6 K6.out).2; clear hb6))
  all_goals
    first
      | (have F : Hid (RetRd2 k a l.length cap q w (.returned (.pointer (some ⟨w6.heap.size + 1, 0, none⟩))) ((w6.alloc (.map #[] 0)).alloc (.cells #[.int .i64 k, .slice a l.length cap, .int .i64 (q : Nat), .map (some w6.heap.size)] 163))) := Lib.hid (by
           have e2 : (w6.alloc (.map #[] 0)).heap.size = w6.heap.size + 1 := by simp
           refine ⟨_, w6.heap.size, rfl, ⟨?_, ?_, ?_⟩, ?_, ?_, ?_, ?_, ?_, ?_⟩
           · rw [← e2]; simp
           · rw [← e2]; simp
           · rw [← e2]; simp
           · rw [← e2]; simp
           · exact (World.ownsMap_made w6 _ _ _).alloc _
           · have h1 := HB0.out.size; have h2 := K6.out.size; omega
           · have h1 := HB0.out.size; have h2 := K6.out.size; omega
           · omega
           · exact (((Below.now HB0.out K6.out).alloc (Below.now HB0.out K6.out).size _).alloc (by have h1 := (Below.now HB0.out K6.out).size; simp; omega) _))
         clear t0 t1 r0 r1 hmm
         go_wp2_with fail
         go_ret
         exact F.out)
      | (have F : Hid (RetRd2 k a l.length cap q w (.returned (.pointer (some ⟨w6.heap.size, 0, none⟩))) (w6.alloc (.cells #[.int .i64 k, .slice a l.length cap, .int .i64 (q : Nat), .map (some w0.heap.size)] 163))) := Lib.hid (by
           refine ⟨_, w0.heap.size, rfl, ⟨?_, ?_, ?_⟩, ?_, ?_, ?_, ?_, ?_, ?_⟩
           · simp
           · simp
           · simp
           · simp
           · exact (((World.ownsMap_made w0 _ _ _).drew.kept (belowGrown HB6.out) (by simp)).alloc _)
           · have h1 := HB0.out.size; have h2 := K6.out.size; omega
           · exact HB0.out.size
           · have h1 := HB6.out.size; simp at h1; omega
           · exact ((Below.now HB0.out K6.out).alloc (Below.now HB0.out K6.out).size _))
         clear t0 t1 r0 r1 hmm
         go_wp2_with fail
         go_ret
         exact F.out)
end Go.Proofs.YtggfhephdcnpcaaGreatDoor
namespace Go.Proofs.YtggfhephdcnpcaaGreatDoor
open Go.RowKit Go.Maps Go.WideShapes
set_option linter.unusedVariables false
/-- no reduced word goes on from there -/
def DEnt (R : List RulD) (k : Nat) (p : Lit × DataW Unit) : Prop := ∃ (e : ByteArray) (m : Nat), EndP k e ∧ m ≤ 300 ∧ p = (kl2 e (numB (m : Int)), .lit (.bool true)) ∧ paths R k m e = 0
def DMap (R : List RulD) (k : Nat) (D : DataW Unit) : Prop := ∃ es, D = .map es ∧ es.Pairwise (fun p q => p.1 ≠ q.1) ∧ ∀ p ∈ es, DEnt R k p
theorem DMap.start (R : List RulD) (k : Nat) : DMap R k (.map []) := ⟨[], rfl, List.Pairwise.nil, fun p hp => by cases hp⟩
theorem DMap.put {R : List RulD} {k : Nat} {D : DataW Unit} (h : DMap R k D) {e : ByteArray} {m : Nat} (he : EndP k e) (hm : m ≤ 300) (hp : paths R k m e = 0) : DMap R k (D.put (kl2 e (numB (m : Int))) (.lit (.bool true))) := by
  obtain ⟨es, rfl, h0, h1⟩ := h
  refine ⟨_, rfl, ?_, fun p hpm => ?_⟩
  · refine (insert_perm _ _).symm.pairwise ?_ (fun hab e => hab e.symm)
    rw [List.pairwise_cons]
    refine ⟨fun q hq e1 => ?_, h0.filter _⟩
    have h2 := (List.mem_filter.1 hq).2
    have h3 : q.1 = kl2 e (numB (m : Int)) := e1.symm
    rw [h3] at h2
    have h4 : (kl2 e (numB (m : Int))).sameKey (kl2 e (numB (m : Int))) = true := by unfold kl2 Lit.sameKey; simp
    rw [h4] at h2
    cases h2
  · rcases List.mem_cons.1 ((insert_perm _ _).mem_iff.1 hpm) with rfl | h2
    · exact ⟨e, m, he, hm, rfl, hp⟩
    · exact h1 p (List.mem_filter.1 h2).1
theorem numB_size {m : Nat} (h : m ≤ 30000) : (numB (m : Int)).size ≤ maxLen := by
  have h1 := decDigits_len (n := m) (by omega)
  have h2 : (numB (m : Int)).size = (Lib.decDigits m).length := by
    show (Lib.itoa (m : Int)).toArray.size = _
    rw [itoa_nat]; simp
  rw [h2]; unfold maxLen; omega
theorem DMap.look {R : List RulD} {k : Nat} {D : DataW Unit} (h : DMap R k D) {e : ByteArray} {m : Nat} (he : EndP k e) (hm : m ≤ 300) : (paths R k m e = 0 ∧ ∀ zd, D.atKey (kl2 e (numB (m : Int))) zd = .lit (.bool true)) ∨ ∀ zd, D.atKey (kl2 e (numB (m : Int))) zd = zd := by
  obtain ⟨es, rfl, _, h1⟩ := h
  cases hf : es.find? (fun p => p.1.sameKey (kl2 e (numB (m : Int)))) with
  | none =>
    right
    intro zd
    unfold DataW.atKey
    simp only []
    rw [hf]
  | some p =>
    left
    have h2 := List.find?_some hf
    obtain ⟨e', m', he', hm', rfl, hp⟩ := h1 p (List.mem_of_find?_eq_some hf)
    have h3 := WideAt.sameKey_eq h2
    have h4 := kl2_inj (by have := he'.1; unfold maxLen; omega) (numB_size (by omega)) (by have := he.1; unfold maxLen; omega) (numB_size (by omega)) h3
    obtain ⟨rfl, h5⟩ := h4
    have h6 := numB_inj h5
    subst h6
    refine ⟨hp, fun zd => ?_⟩
    unfold DataW.atKey
    simp only []
    rw [hf]
theorem sum_constW (l : List Wd) (c : Nat) : (l.map fun _ => c).sum = l.length * c := by
  induction l with
  | nil => simp
  | cons a l ih => simp only [List.map_cons, List.sum_cons, ih, List.length_cons, Nat.add_mul]; omega
open Classical in
theorem DMap.few {R : List RulD} {k : Nat} (hk : k ≤ 4) {D : DataW Unit} (h : DMap R k D) : Maps.size D ≤ 6575345 := by
  obtain ⟨es, rfl, h0, h1⟩ := h
  let T := (allUp k 7).flatMap fun v => (List.range 301).map fun m => (v, m)
  have hT : T.length = (allUp k 7).length * 301 := by
    show ((allUp k 7).flatMap _).length = _
    rw [List.length_flatMap]
    simp only [List.length_map, List.length_range]
    exact sum_constW _ _
  let g : Lit × DataW Unit → Wd × Nat := fun p => if h : DEnt R k p then ((Classical.choose h).data.toList, Classical.choose (Classical.choose_spec h)) else ([], 0)
  have hg : ∀ p ∈ es, ∃ (e : ByteArray) (m : Nat), EndP k e ∧ m ≤ 300 ∧ p.1 = kl2 e (numB (m : Int)) ∧ g p = (e.data.toList, m) := fun p hp => by
    have h2 := h1 p hp
    obtain ⟨h3, h4, h5, _⟩ := Classical.choose_spec (Classical.choose_spec h2)
    exact ⟨Classical.choose h2, Classical.choose (Classical.choose_spec h2), h3, h4, congrArg Prod.fst h5, by simp only [g, dif_pos h2]⟩
  have h2 := nodup_len (l := es.map g) (m := T) (by
    unfold List.Nodup
    rw [List.pairwise_map]
    refine h0.imp_of_mem fun {a b} ha hb hab e => hab ?_
    obtain ⟨e1, m1, _, _, a3, a4⟩ := hg a ha
    obtain ⟨e2, m2, _, _, b3, b4⟩ := hg b hb
    rw [a4, b4] at e
    simp only [Prod.mk.injEq] at e
    rw [a3, b3, ba_ext0 e.1, e.2]) (fun x hx => by
    obtain ⟨p, hp, rfl⟩ := List.mem_map.1 hx
    obtain ⟨e, m, c1, c2, _, c4⟩ := hg p hp
    rw [c4]
    exact List.mem_flatMap.2 ⟨e.data.toList, allUp_has c1.1 c1.2, List.mem_map.2 ⟨m, List.mem_range.2 (by omega), rfl⟩⟩)
  have h3 := allUp_len hk 7
  have h4 : (4 : Nat) ^ (7 + 1) = 65536 := by decide
  rw [List.length_map, hT] at h2
  rw [Maps.size_eq]
  omega
end Go.Proofs.YtggfhephdcnpcaaGreatDoor
