/-
  The program's search for a renaming.
-/
import Derived.Test.YtdhaebbfiaddnaaGreatDoorGts35
import Derived.Test.YtdhaebbfiaddnaaGreatDoorGts26
import Derived.Test.YtdhaebbfiaddnaaGreatDoorGts23
import Derived.Test.YtdhaebbfiaddnaaGreatDoorGts25
import Derived.Test.YtdhaebbfiaddnaaGreatDoorGts04
import Derived.Laws.Alloc2
import Derived.Test.YtdhaebbfiaddnaaGreatDoorGts12
import Derived.Deep.RegionHeld3
import Derived.Deep.CutRange
namespace Go.Proofs.YtdhaebbfiaddnaaGreatDoor
open Go.RowKit
set_option linter.unusedVariables false
/-- the conjugates of an element by the first k -/
def cjs (m : Nat) (ln : List Nat) (i k : Nat) : List Int := (List.range k).map fun x => ((cj m ln x i : Nat) : Int)
theorem cjs_len (m : Nat) (ln : List Nat) (i k : Nat) : (cjs m ln i k).length = k := by simp [cjs]
theorem cjs_succ (m : Nat) (ln : List Nat) (i k : Nat) : cjs m ln i (k + 1) = cjs m ln i k ++ [((cj m ln k i : Nat) : Int)] := by simp [cjs, List.range_succ]
def isCj (m : Nat) (ln : List Nat) (i k j : Nat) : Bool := (cjs m ln i k).contains (j : Int)
theorem isCj_zero (m : Nat) (ln : List Nat) (i j : Nat) : isCj m ln i 0 j = false := by simp [isCj, cjs]
theorem isCj_succ (m : Nat) (ln : List Nat) (i k j : Nat) : isCj m ln i (k + 1) j = (if j = cj m ln k i then true else isCj m ln i k j) := by
  unfold isCj
  rw [cjs_succ]
  by_cases h : j = cj m ln k i
  · subst h; simp
  · have : ¬ (j : Int) = ((cj m ln k i : Nat) : Int) := by omega
    rw [if_neg h, Bool.eq_iff_iff]
    simp [this]
/-- the conjugates of an element, in ascending order -/
def conjL (m : Nat) (ln : List Nat) (i : Nat) : List Int := listTo (isCj m ln i m) m
theorem conj_coll {m : Nat} {ln : List Nat} (hG : Grp m ln) {i : Nat} (hi : i < m) : collL (cjs m ln i m) = conjL m ln i := by
  refine collL_eq (fun x hx => ?_) (fun j hj => by simp [isCj])
  unfold cjs at hx
  obtain ⟨y, hy, rfl⟩ := List.mem_map.1 hx
  exact ⟨_, rfl, hG.cj_lt (List.mem_range.1 hy) hi⟩
end Go.Proofs.YtdhaebbfiaddnaaGreatDoor
namespace Go.Proofs.YtdhaebbfiaddnaaGreatDoor
open Go.RowKit
set_option linter.unusedVariables false
/-- a row of which the places below c are done, and c holds v -/
def rowF (p : Nat → Bool) (c : Nat) (v : Bool) : Nat → Bool := fun j => if j < c then p j else if j = c then v else false
theorem rowF_store (p : Nat → Bool) (c : Nat) (v v' : Bool) (j : Nat) : (if j = c then v' else rowF p c v j) = rowF p c v' j := by
  unfold rowF
  by_cases h : j = c
  · subst h; simp
  · simp [h]
theorem rowF_next (p : Nat → Bool) (c : Nat) (v : Bool) (h : v = p c) (j : Nat) : rowF p c v j = rowF p (c + 1) false j := by
  unfold rowF
  subst h
  by_cases h : j = c
  · subst h; simp
  · by_cases h2 : j < c
    · rw [if_pos h2, if_pos (by omega)]
    · rw [if_neg h2, if_neg h, if_neg (by omega)]; simp
theorem rowF_zero (p : Nat → Bool) (j : Nat) : false = rowF p 0 false j := by simp [rowF]
theorem rowF_done (p : Nat → Bool) (m : Nat) (v : Bool) {j : Nat} (h : j < m) : rowF p m v j = p j := by simp [rowF, h]
theorem rowF_at (p : Nat → Bool) (c : Nat) (v : Bool) : rowF p c v c = v := by simp [rowF]
theorem regV {m : Nat} {ln : List Nat} {c x : Nat} : (!(true && regB m ln c x)) = (((tm m ln (tm m ln c x) c : Nat) : Int) == ((c : Nat) : Int)) := by
  simp only [regB, Bool.true_and, Bool.not_not]
  cases h : ((tm m ln (tm m ln c x) c : Nat) : Int) == ((c : Nat) : Int)
  · simp at h; simp; omega
  · simp at h; simp; omega
theorem cenV {m : Nat} {ln : List Nat} {c x : Nat} : (true && cenB m ln c x) = (((tm m ln c x : Nat) : Int) == ((tm m ln x c : Nat) : Int)) := by
  simp only [cenB, Bool.true_and]
  cases h : ((tm m ln c x : Nat) : Int) == ((tm m ln x c : Nat) : Int)
  · simp at h; simp; omega
  · simp at h; simp; omega
theorem BoolRow.drew {T : TypeId} {w : World} {base g m : Nat} {f : Nat → Bool} (h : BoolRow T w base g m f) : BoolRow T w.drew base g m f := h
theorem allN_all (p : Nat → Bool) (m : Nat) : allN p m = (List.range m).all p := rfl
/-- CenterOf as a function of plain data -/
def centerOfF (n : Int) (l : List Int) : List Int := if groupB n l then thoseL n l (isCen n.toNat (l.map Int.toNat)) else []
theorem centerOfF_not {n : Int} {l : List Int} (h : groupB n l = false) : centerOfF n l = [] := by unfold centerOfF; rw [h]; rfl
theorem centerOfF_yes {n : Int} {l : List Int} (h : groupB n l = true) : centerOfF n l = thoseL n l (isCen n.toNat (l.map Int.toNat)) := by unfold centerOfF; rw [h]; rfl
theorem centerOfF_len (n : Int) (l : List Int) : (centerOfF n l).length ≤ 1000 := by
  cases h : groupB n l
  · rw [centerOfF_not h]; simp
  · rw [centerOfF_yes h]; exact thoseL_len _ _ _
end Go.Proofs.YtdhaebbfiaddnaaGreatDoor
namespace Go.Proofs.YtdhaebbfiaddnaaGreatDoor
open Go.RowKit
set_option linter.unusedVariables false
/-- ConjugatesOf as a function of plain data -/
def conjF (n : Int) (l : List Int) (i : Int) : List Int := if invOk n l i = true then conjL n.toNat (l.map Int.toNat) i.toNat else []
theorem conjF_not {n : Int} {l : List Int} {i : Int} (h : invOk n l i = false) : conjF n l i = [] := by simp [conjF, h]
theorem conjF_yes {m k : Nat} {ln : List Nat} (h : invOk (m : Nat) (ln.map Int.ofNat) (k : Nat) = true) : conjF (m : Nat) (ln.map Int.ofNat) (k : Nat) = conjL m ln k := by
  unfold conjF; rw [if_pos h, map_toNat]; rfl
theorem conjF_len (n : Int) (l : List Int) (i : Int) : (conjF n l i).length ≤ 1000 := by
  cases h : invOk n l i
  · rw [conjF_not h]; simp
  · have hg : groupB n l = true := by simp only [invOk, Bool.and_eq_true] at h; exact h.1
    have hi : inB i 0 (n - 1) = true := by simp only [invOk, Bool.and_eq_true] at h; exact h.2
    obtain ⟨m, ln, rfl, rfl, hG⟩ := groupB_out hg
    obtain ⟨k, rfl, hk⟩ := inB_nat hi
    rw [conjF_yes h]
    have := listTo_len (isCj m ln k m) m
    have := hG.hi
    unfold conjL; omega
end Go.Proofs.YtdhaebbfiaddnaaGreatDoor
namespace Go.Proofs.YtdhaebbfiaddnaaGreatDoor
open Go.RowKit
set_option linter.unusedVariables false
/-- the elements of the least subgroup, in ascending order -/
def inSub (m : Nat) (ln z : List Nat) (j : Nat) : Bool := (subQ m ln z).contains j
def subL (m : Nat) (ln z : List Nat) : List Int := listTo (inSub m ln z) m
theorem sub_coll {m : Nat} {ln z : List Nat} (hT : Tb m ln) (hz : ∀ x ∈ z, x < m) : collL ((subQ m ln z).map Int.ofNat) = subL m ln z := by
  refine collL_eq (fun x hx => ?_) (fun j hj => by rw [inSub, List.contains_iff_mem]; exact (mem_ofNat _ _).symm)
  obtain ⟨y, hy, rfl⟩ := List.mem_map.1 hx
  exact ⟨y, rfl, ((subQ_mem hT hz y).1 hy).lt hT hz⟩
end Go.Proofs.YtdhaebbfiaddnaaGreatDoor
namespace Go.Proofs.YtdhaebbfiaddnaaGreatDoor
open Go.RowKit
set_option linter.unusedVariables false
/-- a table is a group and a list has only elements of it -/
def subOk (n : Int) (l z : List Int) : Bool := groupB n l && rngB n z
/-- SubgroupOf as a function of plain data -/
def subF (n : Int) (l z : List Int) : List Int := if subOk n l z = true then subL n.toNat (l.map Int.toNat) (z.map Int.toNat) else []
theorem subOk_not1 {n : Int} {l z : List Int} (h : groupB n l = false) : subOk n l z = false := by simp [subOk, h]
theorem subOk_not2 {n : Int} {l z : List Int} (h : rngB n z = false) : subOk n l z = false := by simp [subOk, h]
theorem subOk_yes {n : Int} {l z : List Int} (h1 : groupB n l = true) (h : rngB n z = true) : subOk n l z = true := by simp [subOk, h, h1]
theorem subOk_out {n : Int} {l z : List Int} (h : subOk n l z = true) : groupB n l = true ∧ rngB n z = true := by simpa [subOk] using h
theorem subF_not {n : Int} {l z : List Int} (h : subOk n l z = false) : subF n l z = [] := by simp [subF, h]
theorem subF_yes {m : Nat} {ln zn : List Nat} (h : subOk (m : Nat) (ln.map Int.ofNat) (zn.map Int.ofNat) = true) : subF (m : Nat) (ln.map Int.ofNat) (zn.map Int.ofNat) = subL m ln zn := by
  unfold subF; rw [if_pos h, map_toNat', map_toNat']; rfl
theorem rng_nats {m : Nat} {z : List Int} (h : rngB (m : Nat) z = true) : ∃ zn : List Nat, z = zn.map Int.ofNat ∧ ∀ x ∈ zn, x < m := by
  unfold rngB at h
  rw [List.all_eq_true] at h
  refine ⟨z.map Int.toNat, ?_, fun x hx => ?_⟩
  · rw [List.map_map]
    symm
    have : ∀ x ∈ z, (Int.ofNat ∘ Int.toNat) x = x := fun x hx => by
      have := inB_bounds (h x hx)
      simp; omega
    rw [List.map_congr_left this]; simp
  · obtain ⟨y, hy, rfl⟩ := List.mem_map.1 hx
    have := inB_bounds (h y hy)
    omega
theorem subF_len (n : Int) (l z : List Int) : (subF n l z).length ≤ 1000 := by
  cases h : subOk n l z
  · rw [subF_not h]; simp
  · obtain ⟨hg, hr⟩ := subOk_out h
    obtain ⟨m, ln, rfl, rfl, hG⟩ := groupB_out hg
    obtain ⟨zn, rfl, _⟩ := rng_nats hr
    rw [subF_yes h]
    have := listTo_len (inSub m ln zn) m
    have := hG.hi
    unfold subL; omega
end Go.Proofs.YtdhaebbfiaddnaaGreatDoor
namespace Go.Proofs.YtdhaebbfiaddnaaGreatDoor
open Go.RowKit
set_option linter.unusedVariables false
def nm (ps : List Nat) (i : Nat) : Nat := ps.getD i 0
/-- the renaming carries one product -/
def carP (m : Nat) (ln lu ps : List Nat) (i k : Nat) : Bool := nm ps (tm m ln i k) == tm m lu (nm ps i) (nm ps k)
def carR (m : Nat) (ln lu ps : List Nat) (i : Nat) : Bool := (List.range m).all (carP m ln lu ps i)
def carB (m : Nat) (ln lu ps : List Nat) : Bool := (List.range m).all (carR m ln lu ps)
theorem nm_lt {m : Nat} {ps : List Nat} (hps : ps.length = m) (hlt : ∀ y ∈ ps, y < m) {i : Nat} (hi : i < m) : nm ps i < m := by
  unfold nm
  rw [List.getD_eq_getElem?_getD, List.getElem?_eq_getElem (by omega)]
  exact hlt _ (List.getElem_mem (by omega))
theorem nm_cells {w : World} {a : Option Addr} {ps : List Nat} {m : Nat} (h : NatsIn w a ps) (hps : ps.length = m) (hm : 0 < m) :
    ∃ b off, a = some ⟨b, off, none⟩ ∧ ∀ W, Below w.heap.size w W → ∀ j, j < m → W.cell? ⟨b, off + j, none⟩ = some (.int .i64 ((nm ps j : Nat) : Int)) := by
  obtain ⟨b, off, ha, hb, hc⟩ := IntsIn.cell h (i := 0) (by simp; omega)
  refine ⟨b, off, ha, fun W hW j hj => ?_⟩
  rw [hW.cell hb, hc j (by simp; omega), nthZ_lt (by simp; omega)]
  simp [nm, List.getD_eq_getElem?_getD, List.getElem?_eq_getElem (show j < ps.length by omega)]
theorem isoLo (w : World) (o o' : Obj) : ((w.alloc o).alloc o').heap[w.heap.size]? = some o := by
  show ((w.heap.push o).push o')[w.heap.size]? = some o
  simp [Array.getElem?_push]
theorem isoHi (w : World) (o o' : Obj) : ((w.alloc o).alloc o').heap[w.heap.size + 1]? = some o' := by
  show ((w.heap.push o).push o')[w.heap.size + 1]? = some o'
  have h := Array.getElem?_push_size (xs := w.heap.push o) (x := o')
  rw [Array.size_push] at h
  exact h
end Go.Proofs.YtdhaebbfiaddnaaGreatDoor
namespace Go.Proofs.YtdhaebbfiaddnaaGreatDoor
open Go.RowKit
set_option linter.unusedVariables false
/-- the search -/
def srch (m : Nat) (ln lu : List Nat) : Nat → List Nat → Bool
  | 0, p => carB m ln lu p
  | f + 1, p => (List.range m).any fun x => !p.contains x && srch m ln lu f (p ++ [x])
def tryB (m : Nat) (ln lu : List Nat) (f : Nat) (p : List Nat) (x : Nat) : Bool := !p.contains x && srch m ln lu f (p ++ [x])
theorem srch_true {m : Nat} {ln lu : List Nat} {f : Nat} {p : List Nat} {x : Nat} (hx : x < m) (h : tryB m ln lu f p x = true) : srch m ln lu (f + 1) p = true := by
  show (List.range m).any (tryB m ln lu f p) = true
  rw [List.any_eq_true]
  exact ⟨x, List.mem_range.2 hx, h⟩
theorem srch_false {m : Nat} {ln lu : List Nat} {f : Nat} {p : List Nat} (h : ∀ x, x < m → tryB m ln lu f p x = false) : srch m ln lu (f + 1) p = false := by
  show (List.range m).any (tryB m ln lu f p) = false
  rw [List.any_eq_false]
  intro x hx
  simp [h x (List.mem_range.1 hx)]
def usedTo (p : List Nat) (x j : Nat) : Bool := (p.take j).contains x
theorem usedTo_succ {p : List Nat} {x j : Nat} (hj : j < p.length) : usedTo p x (j + 1) = (usedTo p x j || (x == nm p j)) := by
  unfold usedTo nm
  rw [List.take_succ_eq_append_getElem hj, List.getD_eq_getElem?_getD, List.getElem?_eq_getElem hj, Bool.eq_iff_iff]
  simp only [List.contains_iff_mem, List.mem_append, List.mem_singleton, Bool.or_eq_true, beq_iff_eq, Option.getD_some]
theorem usedTo_zero (p : List Nat) (x : Nat) : usedTo p x 0 = false := by simp [usedTo]
theorem usedTo_all (p : List Nat) (x : Nat) : usedTo p x p.length = p.contains x := by simp [usedTo]
theorem isoNew (w : World) (o : Obj) : (w.alloc o).heap[w.heap.size]? = some o := by
  show (w.heap.push o)[w.heap.size]? = some o
  exact Array.getElem?_push_size
theorem owns_nats {w : World} {base : Nat} {T : TypeId} {size : Nat} {a : Option Addr} {n m cap : Nat} {l : List Nat} (h : w.ownsRow base T size (.slice a m cap) n (ivs l)) : NatsIn w a l := owns_ints h
theorem nm_cells' {w : World} {a : Option Addr} {ps : List Nat} (h : NatsIn w a ps) (hm : 0 < ps.length) :
    ∃ b off, a = some ⟨b, off, none⟩ ∧ ∀ W, Below w.heap.size w W → ∀ j, j < ps.length → W.cell? ⟨b, off + j, none⟩ = some (.int .i64 ((nm ps j : Nat) : Int)) := nm_cells h rfl hm
end Go.Proofs.YtdhaebbfiaddnaaGreatDoor
namespace Go.Proofs.YtdhaebbfiaddnaaGreatDoor
open Go.RowKit
set_option linter.unusedVariables false
set_option maxRecDepth 20000 in
set_option maxHeartbeats 1000000 in
theorem renIn_pred (m : Nat) (ln lu ps : List Nat) (a au ap : Option Addr) (len cap lenu capu capp bn bt bi bu i : Nat) (w : World) (hn : w.cell? ⟨bn, 0, none⟩ = some (.slice ap m capp)) (ht0 : w.cell? ⟨bt, 0, none⟩ = some (.int .i64 m)) (ht1 : w.cell? ⟨bt, 1, none⟩ = some (.slice a len cap))
    (hi0 : w.cell? ⟨bi, 0, none⟩ = some (.int .i64 (i : Nat))) (hu0 : w.cell? ⟨bu, 0, none⟩ = some (.int .i64 m)) (hu1 : w.cell? ⟨bu, 1, none⟩ = some (.slice au lenu capu)) (hl : NatsIn w a ln) (hu : NatsIn w au lu) (hp : NatsIn w ap ps) (hT : Tb m ln) (hU : Tb m lu) (hlen : len = m * m) (hlenu : lenu = m * m)
    (hps : ps.length = m) (hlt : ∀ y ∈ ps, y < m) (hi : i < m) :
    PredEl w.heap.size 91 #[.pointer (some ⟨bn, 0, none⟩), .pointer (some ⟨bt, 0, none⟩), .pointer (some ⟨bi, 0, none⟩), .pointer (some ⟨bu, 0, none⟩)] (carP m ln lu ps i) m w := by
  intro k hk W hW
  have hpos := hT.lo
  have hm := hT.hi
  have HN := Lib.hid (fun i (hi : i < m) => nm_lt hps hlt hi)
  obtain ⟨bp, op, rfl, hc⟩ := nm_cells hp hps hpos
  have q1 : ∀ x, (wide W x).cell? ⟨bp, op + tm m ln i k, none⟩ = some (.int .i64 ((nm ps (tm m ln i k) : Nat) : Int)) := wide_cell (hc _ hW _ (hT.tm_lt hi hk))
  have q2 : ∀ x, (wide W x).cell? ⟨bp, op + i, none⟩ = some (.int .i64 ((nm ps i : Nat) : Int)) := wide_cell (hc _ hW _ hi)
  have q3 : ∀ x, (wide W x).cell? ⟨bp, op + k, none⟩ = some (.int .i64 ((nm ps k : Nat) : Int)) := wide_cell (hc _ hW _ hk)
  have p0 : ∀ x, (wide W x).cell? ⟨bn, 0, none⟩ = some (.slice (some ⟨bp, op, none⟩) m capp) := wide_cell (by rw [hW.cell (World.block_lt_of_cell? w _ hn)]; exact hn)
  have p1 : ∀ x, (wide W x).cell? ⟨bt, 0, none⟩ = some (.int .i64 m) := wide_cell (by rw [hW.cell (World.block_lt_of_cell? w _ ht0)]; exact ht0)
  have p2 : ∀ x, (wide W x).cell? ⟨bt, 1, none⟩ = some (.slice a len cap) := wide_cell (by rw [hW.cell (World.block_lt_of_cell? w _ ht1)]; exact ht1)
  have p3 : ∀ x, (wide W x).cell? ⟨bi, 0, none⟩ = some (.int .i64 (i : Nat)) := wide_cell (by rw [hW.cell (World.block_lt_of_cell? w _ hi0)]; exact hi0)
  have p4 : ∀ x, (wide W x).cell? ⟨bu, 0, none⟩ = some (.int .i64 m) := wide_cell (by rw [hW.cell (World.block_lt_of_cell? w _ hu0)]; exact hu0)
  have p5 : ∀ x, (wide W x).cell? ⟨bu, 1, none⟩ = some (.slice au lenu capu) := wide_cell (by rw [hW.cell (World.block_lt_of_cell? w _ hu1)]; exact hu1)
  have N1 : Hid (∀ x, NatsIn (wide W x) a ln) := Lib.hid (fun x => (hl.later hW).later (below_wide _ _))
  have N2 : Hid (∀ x, NatsIn (wide W x) au lu) := Lib.hid (fun x => (hu.later hW).later (below_wide _ _))
  have HT := Lib.hid hT
  have HU := Lib.hid hU
  have HL := Lib.hid hlen
  have HLU := Lib.hid hlenu
  have hti := hT.tm_lt hi hk
  have hni := HN.out i hi
  have hnk := HN.out k hk
  have F : Hid (∀ x y z : Nat, nm ps (tm m ln i k) = x → nm ps i = y → nm ps k = z → carP m ln lu ps i k = (((x : Nat) : Int) == ((tm m lu y z : Nat) : Int))) := Lib.hid (fun x y z hx hy hz => by
    subst hx hy hz
    unfold carP
    rw [Bool.eq_iff_iff]
    simp
    constructor <;> intro h <;> omega)
  have F2 := Lib.hid (F.out _ _ _ rfl rfl rfl)
  clear F hc hn ht0 ht1 hi0 hu0 hu1 hl hu hp hT hU hlen hlenu hps hlt HN hW
  generalize nm ps i = ei at *
  generalize nm ps k = ek at *
  generalize nm ps (tm m ln i k) = et at *
  go_enter Tryz.func91, Tryz.ntmps91
  go_wp2_with fail
  refine region_wide (by kernel_rfl) (by kernel_rfl) ?_
  repeat (quiet_step ((first
    | (go_at_call 54; (with_reducible refine (implTimes_any m ln a _ _ _ _ _ (N1.out _) HT.out HL.out (by assumption) (by assumption)).mono ?_); rintro e w2 ⟨rfl, hb2⟩; exact ⟨rfl, wide_next hb2⟩)
    | (go_at_call 54; (with_reducible refine (implTimes_any m lu au _ _ _ _ _ (N2.out _) HU.out HLU.out (by assumption) (by assumption)).mono ?_); rintro e w2 ⟨rfl, hb2⟩; exact ⟨rfl, wide_next hb2⟩))))
  refine wpQuiet_nil ?_
  rintro w4 ⟨x4, rfl⟩
  go_wp2_with fail
  go_ret
  exact ⟨ret_bool (by rw [F2.out]), below_wide _ _⟩
set_option maxRecDepth 20000 in
set_option maxHeartbeats 1000000 in
theorem renOut_pred (m : Nat) (ln lu ps : List Nat) (a au ap : Option Addr) (len cap lenu capu capp bn bt bu : Nat) (w : World) (hn : w.cell? ⟨bn, 0, none⟩ = some (.slice ap m capp)) (ht0 : w.cell? ⟨bt, 0, none⟩ = some (.int .i64 m)) (ht1 : w.cell? ⟨bt, 1, none⟩ = some (.slice a len cap))
    (hu0 : w.cell? ⟨bu, 0, none⟩ = some (.int .i64 m)) (hu1 : w.cell? ⟨bu, 1, none⟩ = some (.slice au lenu capu)) (hl : NatsIn w a ln) (hu : NatsIn w au lu) (hp : NatsIn w ap ps) (hT : Tb m ln) (hU : Tb m lu) (hlen : len = m * m) (hlenu : lenu = m * m)
    (hps : ps.length = m) (hlt : ∀ y ∈ ps, y < m) :
    PredEl w.heap.size 90 #[.pointer (some ⟨bt, 0, none⟩), .pointer (some ⟨bn, 0, none⟩), .pointer (some ⟨bu, 0, none⟩)] (carR m ln lu ps) m w := by
  intro i hi W hW
  have hm := hT.hi
  have k0 : W.cell? ⟨bt, 0, none⟩ = some (.int .i64 m) := by rw [hW.cell (World.block_lt_of_cell? w _ ht0)]; exact ht0
  have k1 : W.cell? ⟨bt, 1, none⟩ = some (.slice a len cap) := by rw [hW.cell (World.block_lt_of_cell? w _ ht1)]; exact ht1
  have hb0 : bt < W.heap.size := World.block_lt_of_cell? W _ k0
  have hb : ∀ W2, Below W.heap.size W W2 → ∀ ad v, w.cell? ad = some v → W2.cell? ad = some v := fun W2 h2 ad v hv => by
    have h3 := hW.trans (h2.mono hW.size)
    rw [h3.cell (World.block_lt_of_cell? w _ hv)]; exact hv
  have HP : Hid (∀ (bi : Nat) (W2 : World), Below W.heap.size W W2 → W2.cell? ⟨bi, 0, none⟩ = some (.int .i64 (i : Nat)) → PredEl W2.heap.size 91 #[.pointer (some ⟨bn, 0, none⟩), .pointer (some ⟨bt, 0, none⟩), .pointer (some ⟨bi, 0, none⟩), .pointer (some ⟨bu, 0, none⟩)] (carP m ln lu ps i) m W2) := Lib.hid (fun bi W2 h2 hbi =>
    renIn_pred m ln lu ps a au ap len cap lenu capu capp bn bt bi bu i W2 (hb _ h2 _ _ hn) (hb _ h2 _ _ ht0) (hb _ h2 _ _ ht1) hbi (hb _ h2 _ _ hu0) (hb _ h2 _ _ hu1) ((hl.later hW).later h2) ((hu.later hW).later h2) ((hp.later hW).later h2) hT hU hlen hlenu hps hlt hi)
  have HB : Hid (carR m ln lu ps i = (List.range m).all (carP m ln lu ps i)) := Lib.hid rfl
  clear hn ht0 ht1 hu0 hu1 hl hu hp hT hU hlen hlenu hps hlt hb hW
  go_enter Tryz.func90, Tryz.ntmps90
  go_wp2_with fail
  have hbel : Below W.heap.size W (W.alloc (.cells #[.int .i64 (i : Nat)] 3)) := (Below.refl _ _).alloc (Nat.le_refl _) _
  have hp := HP.out W.heap.size (W.alloc (.cells #[.int .i64 (i : Nat)] 3)) hbel (by simp)
  refine (all_any _ _ _ (carP m ln lu ps i) m a len cap _ (by omega) hp (Nat.le_refl _) (enters_of Tryz.func91 (by kernel_rfl) rfl)).mono ?_
  rintro e w2 ⟨rfl, hb2⟩
  have hbel2 := Below.now hbel hb2
  clear hp hb2 hbel
  generalize (List.range m).all (carP m ln lu ps i) = q at *
  go_wp2_with fail
  go_ret
  exact ⟨ret_bool (by rw [HB.out]), hbel2⟩
end Go.Proofs.YtdhaebbfiaddnaaGreatDoor
namespace Go.Proofs.YtdhaebbfiaddnaaGreatDoor
open Go.RowKit
set_option linter.unusedVariables false
theorem isoThree (w : World) (o1 o2 o3 : Obj) : (((w.alloc o1).alloc o2).alloc o3).heap[w.heap.size]? = some o1 ∧ (((w.alloc o1).alloc o2).alloc o3).heap[w.heap.size + 1]? = some o2 ∧ (((w.alloc o1).alloc o2).alloc o3).heap[w.heap.size + 1 + 1]? = some o3 ∧ (((w.alloc o1).alloc o2).alloc o3).heap.size = w.heap.size + 3 := by
  have s1 : (w.alloc o1).heap.size = w.heap.size + 1 := by simp
  have s2 : ((w.alloc o1).alloc o2).heap.size = w.heap.size + 1 + 1 := by simp
  have old : ∀ (W : World) (o : Obj) (k : Nat), k < W.heap.size → (W.alloc o).heap[k]? = W.heap[k]? := fun W o k hk => Below.heap_alloc W o k hk
  refine ⟨?_, ?_, ?_, by simp⟩
  · rw [old _ _ _ (by omega)]; exact isoLo _ _ _
  · rw [old _ _ _ (by omega)]; exact isoHi _ _ _
  · rw [← s2]; exact isoNew _ _
theorem cloneZ_any (l : List Nat) (b off cap : Nat) (w : World) (hl : NatsIn w (some ⟨b, off, none⟩) l) (hpos : 0 < l.length) (hlen : l.length ≤ 1000000) :
    Calls Tryz.prog 88 #[.slice (some ⟨b, off, none⟩) l.length cap] w fun e w' => ∃ v', e = .returned v' ∧ Bld 3 1 w w' v' l.length (ivs l) := by
  obtain ⟨b2, o2, he, hc⟩ := nm_cells' hl hpos
  simp only [Option.some.injEq, Addr.mk.injEq, and_true] at he
  obtain ⟨rfl, rfl⟩ := he
  have := Tryz.slices_Clone_int b off l.length cap (l.map Int.ofNat) w (by simp) (by omega) (fun j hj => by
    rw [List.length_map] at hj
    rw [hc w (Below.refl _ _) j hj]
    simp [nm, List.getD_eq_getElem?_getD, hj])
  rw [List.take_of_length_le (by simp)] at this
  exact this.mono fun _ _ ⟨v', he, ho, _, hb⟩ => ⟨v', he, ho, hb⟩
theorem containsZ_any (l : List Nat) (b off cap x : Nat) (w : World) (hl : NatsIn w (some ⟨b, off, none⟩) l) (hpos : 0 < l.length) (hlen : l.length ≤ 1000000) :
    Calls Tryz.prog 87 #[.slice (some ⟨b, off, none⟩) l.length cap, .int .i64 (x : Nat)] w fun e w' => e = .returned (.bool (l.contains x)) ∧ w' = w := by
  obtain ⟨b2, o2, he, hc⟩ := nm_cells' hl hpos
  simp only [Option.some.injEq, Addr.mk.injEq, and_true] at he
  obtain ⟨rfl, rfl⟩ := he
  have := Tryz.slices_Contains_int b off l.length cap (l.map Int.ofNat) (x : Nat) w (by simp) (by omega) (fun j hj => by
    rw [List.length_map] at hj
    rw [hc w (Below.refl _ _) j hj]
    simp [nm, List.getD_eq_getElem?_getD, hj])
  rw [List.take_of_length_le (by simp)] at this
  have e : (l.map Int.ofNat).contains ((x : Nat) : Int) = l.contains x := by
    rw [Bool.eq_iff_iff, List.contains_iff_mem, List.contains_iff_mem, List.mem_map]
    constructor
    · rintro ⟨y, hy, he⟩
      have : y = x := by have h2 : (y : Int) = (x : Int) := he; omega
      rw [← this]; exact hy
    · exact fun h => ⟨x, h, rfl⟩
  rw [e] at this
  exact this
set_option maxRecDepth 20000 in
set_option maxHeartbeats 4000000 in
theorem renames_any (m : Nat) (ln lu : List Nat) (a au : Option Addr) (len cap lenu capu : Nat) (hT : Tb m ln) (hU : Tb m lu) (hlen : len = m * m) (hlenu : lenu = m * m) : ∀ (f : Nat) (ps : List Nat) (ap : Option Addr) (capp : Nat) (w : World), NatsIn w a ln → NatsIn w au lu → NatsIn w ap ps → ps.length + f = m → (∀ y ∈ ps, y < m) → 0 ∈ ps →
    Calls Tryz.prog 55 #[.agg #[.int .i64 m, .slice a len cap], .agg #[.int .i64 m, .slice au lenu capu], .slice ap ps.length capp] w fun e w' => e = .returned (.bool (srch m ln lu f ps)) ∧ Below w.heap.size w w' := by
  intro f
  induction f with
  | zero =>
    intro ps ap capp w hl hu hp hf hlt h0
    have hps : ps.length = m := hf
    have hm := hT.hi
    have FS : Hid (srch m ln lu 0 ps = carB m ln lu ps) := Lib.hid rfl
    have FB : Hid (carB m ln lu ps = (List.range m).all (carR m ln lu ps)) := Lib.hid rfl
    have hq1 : decide (m < m) = false := by simp
    have hbel : Below w.heap.size w (((w.alloc (.cells #[.int .i64 m, .slice a len cap] 60)).alloc (.cells #[.int .i64 m, .slice au lenu capu] 60)).alloc (.cells #[.slice ap m capp] 49)) := by
      repeat (first | exact Below.refl _ _ | refine Below.alloc ?_ (by simp; try omega) _)
    have X := isoThree w (.cells #[.int .i64 m, .slice a len cap] 60) (.cells #[.int .i64 m, .slice au lenu capu] 60) (.cells #[.slice ap m capp] 49)
    have HP : Hid (PredEl (((w.alloc (.cells #[.int .i64 m, .slice a len cap] 60)).alloc (.cells #[.int .i64 m, .slice au lenu capu] 60)).alloc (.cells #[.slice ap m capp] 49)).heap.size 90 #[.pointer (some ⟨w.heap.size, 0, none⟩), .pointer (some ⟨w.heap.size + 1 + 1, 0, none⟩), .pointer (some ⟨w.heap.size + 1, 0, none⟩)] (carR m ln lu ps) m (((w.alloc (.cells #[.int .i64 m, .slice a len cap] 60)).alloc (.cells #[.int .i64 m, .slice au lenu capu] 60)).alloc (.cells #[.slice ap m capp] 49))) := Lib.hid (by
      obtain ⟨x1, x2, x3, _⟩ := X
      exact renOut_pred m ln lu ps a au ap len cap lenu capu capp (w.heap.size + 1 + 1) w.heap.size (w.heap.size + 1) _ (by rw [cell_of_row _ _ 0 _ _ _ x3]; rfl) (by rw [cell_of_row _ _ 0 _ _ _ x1]; rfl) (by rw [cell_of_row _ _ 1 _ _ _ x1]; rfl) (by rw [cell_of_row _ _ 0 _ _ _ x2]; rfl) (by rw [cell_of_row _ _ 1 _ _ _ x2]; rfl) (hl.later hbel) (hu.later hbel) (hp.later hbel) hT hU hlen hlenu hps hlt)
    have HBE := Lib.hid hbel
    rw [hps]
    clear hps hl hu hp hf hlt h0 hT hU hlen hlenu hbel X
    go_enter Tryz.func55, Tryz.ntmps55
    go_wp2_with fail
    refine (all_any _ _ _ (carR m ln lu ps) m a len cap _ (by omega) HP.out (Nat.le_refl _) (enters_of Tryz.func90 (by kernel_rfl) rfl)).mono ?_
    rintro e w2 ⟨rfl, hb2⟩
    have hbel2 := Below.now HBE.out hb2
    clear hb2 HP HBE
    generalize (List.range m).all (carR m ln lu ps) = q at *
    go_wp2_with fail
    go_ret
    exact ⟨ret_bool (by rw [FS.out, FB.out]), hbel2⟩
  | succ f ih =>
    intro ps ap capp w hl hu hp hf hlt h0
    have hpos := hT.lo
    have hm := hT.hi
    have hpl : ps.length < m := by omega
    have hp0 : 0 < ps.length := List.length_pos_of_mem h0
    have hq1 : decide (ps.length < m) = true := by simpa using hpl
    have hq2 : decide ((ps.length : Int) < (m : Int)) = true := by simpa using hpl
    have HA := Lib.hid hl
    have HB := Lib.hid hu
    have HF := Lib.hid hf
    have HQ := Lib.hid hlt
    have H0 := Lib.hid h0
    have IH := Lib.hid ih
    have HPN := Lib.hid hp
    obtain ⟨bp, op, rfl, hc⟩ := nm_cells' hp hp0
    have HC := Lib.hid hc
    clear hl hu hp hf hlt h0 hT hU hlen hlenu hc ih
    go_enter Tryz.func55, Tryz.ntmps55
    go_upto_region 1 with fail
    have B0 : Hid (Below w.heap.size w (((w.alloc (.cells #[.int .i64 m, .slice a len cap] 60)).alloc (.cells #[.int .i64 m, .slice au lenu capu] 60)).alloc (.cells #[.slice (some ⟨bp, op, none⟩) ps.length capp] 49))) := Lib.hid (by repeat (first | exact Below.refl _ _ | refine Below.alloc ?_ (by simp; try omega) _))
    have X := isoThree w (.cells #[.int .i64 m, .slice a len cap] 60) (.cells #[.int .i64 m, .slice au lenu capu] 60) (.cells #[.slice (some ⟨bp, op, none⟩) ps.length capp] 49)
    generalize (((w.alloc (.cells #[.int .i64 m, .slice a len cap] 60)).alloc (.cells #[.int .i64 m, .slice au lenu capu] 60)).alloc (.cells #[.slice (some ⟨bp, op, none⟩) ps.length capp] 49)) = W0 at *
    have K1 : Hid (∀ W, Below W0.heap.size W0 W → W.cell? ⟨w.heap.size, 0, none⟩ = some (.int .i64 m) ∧ W.cell? ⟨w.heap.size, 1, none⟩ = some (.slice a len cap) ∧ W.cell? ⟨w.heap.size + 1, 0, none⟩ = some (.int .i64 m) ∧ W.cell? ⟨w.heap.size + 1, 1, none⟩ = some (.slice au lenu capu) ∧ W.cell? ⟨w.heap.size + 1 + 1, 0, none⟩ = some (.slice (some ⟨bp, op, none⟩) ps.length capp)) := Lib.hid (fun W hW => by
      obtain ⟨x1, x2, x3, x4⟩ := X
      have e1 := (hW.block w.heap.size (by omega)).trans x1
      have e2 := (hW.block (w.heap.size + 1) (by omega)).trans x2
      have e3 := (hW.block (w.heap.size + 1 + 1) (by omega)).trans x3
      refine ⟨by simp [World.cell?, e1], by simp [World.cell?, e1], by simp [World.cell?, e2], by simp [World.cell?, e2], by simp [World.cell?, e3]⟩)
    obtain ⟨z0, z1, z2, z3, z4⟩ := K1.out _ (Below.refl _ _)
    clear X
    go_wp2_with fail
    clear z0 z1 z2 z3 z4
    go_loopw [15] (fun i wr => ∃ x : Nat, x ≤ m ∧ i = .int .i64 x ∧ Below W0.heap.size W0 wr ∧ Hid (∀ y, y < x → tryB m ln lu f ps y = false)) (fun i _ => m - (intOf i).toNat)
    case atStart => exact ⟨0, Nat.zero_le _, rfl, Below.refl _ _, Lib.hid (fun y hy => by omega)⟩
    case round =>
      obtain ⟨x, hxm, rfl, hbw, hall⟩ := hrel
      by_cases hxi : x < m
      · have TRY : Hid (tryB m ln lu f ps x = (!ps.contains x && srch m ln lu f (ps ++ [x]))) := Lib.hid rfl
        have HS : Hid (∀ W, Below W0.heap.size W0 W → Calls Tryz.prog 87 #[.slice (some ⟨bp, op, none⟩) ps.length capp, .int .i64 (x : Nat)] W fun e w' => e = .returned (.bool (ps.contains x)) ∧ w' = W) := Lib.hid (fun W hW => containsZ_any ps bp op capp x W (HPN.out.later (Below.now B0.out hW)) hp0 (by omega))
        have HLEN : Hid ((ps ++ [x]).length = ps.length + 1) := Lib.hid (by simp)
        have IHC : Hid (∀ (g c : Nat) (W : World), Below W0.heap.size W0 W → W.ownsRow wr.heap.size 3 1 (.slice (some ⟨g, 0, none⟩) (ps.length + 1) c) (ps.length + 1) (ivs ps ++ [.int .i64 (x : Nat)]) → Calls Tryz.prog 55 #[.agg #[.int .i64 m, .slice a len cap], .agg #[.int .i64 m, .slice au lenu capu], .slice (some ⟨g, 0, none⟩) (ps.length + 1) c] W fun e w' => e = .returned (.bool (srch m ln lu f (ps ++ [x]))) ∧ Below W.heap.size W w') := Lib.hid (fun g c W hW ho => by
          have h1 := IH.out (ps ++ [x]) (some ⟨g, 0, none⟩) c W (HA.out.later (Below.now B0.out hW)) (HB.out.later (Below.now B0.out hW)) (owns_nats (by rw [ivs_app]; exact ho)) (by rw [HLEN.out]; have := HF.out; omega) (fun y hy => by
            rcases List.mem_append.1 hy with h | h
            · exact HQ.out y h
            · rw [List.mem_singleton.1 h]; exact hxi) (List.mem_append.2 (.inl H0.out))
          rw [HLEN.out] at h1
          exact h1)
        have HCl : Hid (∀ W, Below wr.heap.size wr W → Calls Tryz.prog 88 #[.slice (some ⟨bp, op, none⟩) ps.length capp] W fun e w' => ∃ v', e = .returned v' ∧ Bld 3 1 W w' v' ps.length (ivs ps)) := Lib.hid (fun W hW => cloneZ_any ps bp op capp W (HPN.out.later (Below.now B0.out (Below.now hbw hW))) hp0 (by omega))
        have M1 : Hid (∀ u ∈ [Value.int .i64 ((x : Nat) : Int)], u.oneCell' = true) := Lib.hid (fun u hu => by rw [List.mem_singleton.1 hu]; rfl)
        have M3 : Hid (ps.length + 1 ≤ maxLen) := Lib.hid (by unfold maxLen; omega)
        have M4 : Hid ((ps.length + 1) * 8 ≤ 140737488355328) := Lib.hid (by omega)
        have TF : Hid (tryB m ln lu f ps x = true → srch m ln lu (f + 1) ps = true) := Lib.hid (fun h => srch_true hxi h)
        generalize ps.contains x = cb at *
        generalize srch m ln lu f (ps ++ [x]) = r at *
        obtain ⟨tb, htb⟩ : ∃ tb, tb = tryB m ln lu f ps x := ⟨_, rfl⟩
        rw [← htb] at TRY TF
        have TTT := Lib.hid htb
        clear htb
        go_upto_region 5 with fail
        go_cut [15, 31] from 15 to 32 (fun c v wx => c = .int .i64 x ∧ v = .bool tb ∧ Below W0.heap.size W0 wx)
        case first =>
          obtain ⟨k0, k1, k2, k3, k4⟩ := K1.out _ hbw
          have kr0 := Below.refl wr.heap.size wr
          have kr := kr0
          cases cb
          · go_region_held3 (fun w' => w'.cell? ⟨w.heap.size, 0, none⟩ = some (.int .i64 m) ∧ w'.cell? ⟨w.heap.size, 1, none⟩ = some (.slice a len cap) ∧ w'.cell? ⟨w.heap.size + 1, 0, none⟩ = some (.int .i64 m) ∧ w'.cell? ⟨w.heap.size + 1, 1, none⟩ = some (.slice au lenu capu) ∧ w'.cell? ⟨w.heap.size + 1 + 1, 0, none⟩ = some (.slice (some ⟨bp, op, none⟩) ps.length capp)) (go_keep) (first
              | (go_at_call 87; refine (HS.out _ (Below.now hbw (by repeat (first | exact kr0 | refine Below.drew ?_ | refine below_drewN ?_ _)))).mono ?_; rintro e w2 ⟨rfl, hw2⟩; obtain rfl := hw2.symm)
              | (go_at_call 88; refine (HCl.out _ (by repeat (first | exact kr | refine Below.drew ?_ | refine below_drewN ?_ _ | refine Below.alloc ?_ (by have := kr.size; simp; try omega) _))).mono ?_; rintro e w2 ⟨v2, rfl, hb2⟩; have KB := Lib.hid hb2.2; replace kr : Below wr.heap.size wr w2 := Below.now (by repeat (first | exact kr | refine Below.drew ?_ | refine below_drewN ?_ _ | refine Below.alloc ?_ (by have := kr.size; simp; try omega) _)) hb2.2; have H2 : Hid (w2.ownsRow wr.heap.size 3 1 v2 ps.length (ivs ps)) := Lib.hid (owns_mono hb2.1 (by simp)); have s0 : w2.cell? ⟨w.heap.size, 0, none⟩ = some (.int .i64 m) := (K1.out _ (Below.now hbw kr)).1; have s1 : w2.cell? ⟨w.heap.size, 1, none⟩ = some (.slice a len cap) := (K1.out _ (Below.now hbw kr)).2.1; have s2 : w2.cell? ⟨w.heap.size + 1, 0, none⟩ = some (.int .i64 m) := (K1.out _ (Below.now hbw kr)).2.2.1; have s3 : w2.cell? ⟨w.heap.size + 1, 1, none⟩ = some (.slice au lenu capu) := (K1.out _ (Below.now hbw kr)).2.2.2.1; have s4 : w2.cell? ⟨w.heap.size + 1 + 1, 0, none⟩ = some (.slice (some ⟨bp, op, none⟩) ps.length capp) := (K1.out _ (Below.now hbw kr)).2.2.2.2; clear hb2)
              | (refine step_appM_g (w := wr) (by first | rfl | simp [Region.wanted, yielded, go_sem]) (.tmp 26) (.tmp 28) (by rfl) Tryz.underlying49 Tryz.infoInt rfl (by decide) (by rfl) (Bld.later (w := wr) ⟨H2.out, kr⟩ ((Below.refl _ _).alloc (Nat.le_refl _) _)) (by rfl) (src_at (T := 3) (isoNew _ _)) (by rfl) M1.out M3.out M4.out ?_; intro v9 w9 hb9 hg9 ho9; obtain ⟨g5, c5, hv5⟩ := owns_some hb9.1 (by omega); subst hv5; have H9 : Hid (Bld 3 1 wr w9 (.slice (some ⟨g5, 0, none⟩) (ps.length + 1) c5) (ps.length + 1) (ivs ps ++ [.int .i64 (x : Nat)])) := Lib.hid hb9; have t0 : w9.cell? ⟨w.heap.size, 0, none⟩ = some (.int .i64 m) := (K1.out _ (Below.now hbw H9.out.2)).1; have t1 : w9.cell? ⟨w.heap.size, 1, none⟩ = some (.slice a len cap) := (K1.out _ (Below.now hbw H9.out.2)).2.1; have t2 : w9.cell? ⟨w.heap.size + 1, 0, none⟩ = some (.int .i64 m) := (K1.out _ (Below.now hbw H9.out.2)).2.2.1; have t3 : w9.cell? ⟨w.heap.size + 1, 1, none⟩ = some (.slice au lenu capu) := (K1.out _ (Below.now hbw H9.out.2)).2.2.2.1; have t4 : w9.cell? ⟨w.heap.size + 1 + 1, 0, none⟩ = some (.slice (some ⟨bp, op, none⟩) ps.length capp) := (K1.out _ (Below.now hbw H9.out.2)).2.2.2.2; clear hb9 hg9 ho9)
              | (refine step_appM_g (w := wr) (by first | rfl | simp [Region.wanted, yielded, go_sem]) (.tmp 26) (.tmp 28) (by rfl) Tryz.underlying49 Tryz.infoInt rfl (by decide) (by rfl) (show Bld 3 1 wr w2 v2 ps.length (ivs ps) from ⟨H2.out, kr⟩) (by rfl) (Src.later (w := (wr.alloc (.cells #[.int .i64 (x : Nat)] 3)).drew) (src_at (T := 3) (isoNew wr _)) KB.out) (by rfl) M1.out M3.out M4.out ?_; intro v9 w9 hb9 hg9 ho9; obtain ⟨g5, c5, hv5⟩ := owns_some hb9.1 (by omega); subst hv5; have H9 : Hid (Bld 3 1 wr w9 (.slice (some ⟨g5, 0, none⟩) (ps.length + 1) c5) (ps.length + 1) (ivs ps ++ [.int .i64 (x : Nat)])) := Lib.hid hb9; have t0 : w9.cell? ⟨w.heap.size, 0, none⟩ = some (.int .i64 m) := (K1.out _ (Below.now hbw H9.out.2)).1; have t1 : w9.cell? ⟨w.heap.size, 1, none⟩ = some (.slice a len cap) := (K1.out _ (Below.now hbw H9.out.2)).2.1; have t2 : w9.cell? ⟨w.heap.size + 1, 0, none⟩ = some (.int .i64 m) := (K1.out _ (Below.now hbw H9.out.2)).2.2.1; have t3 : w9.cell? ⟨w.heap.size + 1, 1, none⟩ = some (.slice au lenu capu) := (K1.out _ (Below.now hbw H9.out.2)).2.2.2.1; have t4 : w9.cell? ⟨w.heap.size + 1 + 1, 0, none⟩ = some (.slice (some ⟨bp, op, none⟩) ps.length capp) := (K1.out _ (Below.now hbw H9.out.2)).2.2.2.2; clear hb9 hg9 ho9)
              | (go_at_call 55; refine (IHC.out g5 c5 _ (Below.now hbw H9.out.2) H9.out.1).mono ?_; rintro e w6 ⟨rfl, hb6⟩; have K6 : Hid (Below wr.heap.size wr w6) := Lib.hid (Below.now H9.out.2 hb6); have r0 : w6.cell? ⟨w.heap.size, 0, none⟩ = some (.int .i64 m) := (K1.out _ (Below.now hbw K6.out)).1; have r1 : w6.cell? ⟨w.heap.size, 1, none⟩ = some (.slice a len cap) := (K1.out _ (Below.now hbw K6.out)).2.1; have r2 : w6.cell? ⟨w.heap.size + 1, 0, none⟩ = some (.int .i64 m) := (K1.out _ (Below.now hbw K6.out)).2.2.1; have r3 : w6.cell? ⟨w.heap.size + 1, 1, none⟩ = some (.slice au lenu capu) := (K1.out _ (Below.now hbw K6.out)).2.2.2.1; have r4 : w6.cell? ⟨w.heap.size + 1 + 1, 0, none⟩ = some (.slice (some ⟨bp, op, none⟩) ps.length capp) := (K1.out _ (Below.now hbw K6.out)).2.2.2.2; clear hb6))
            all_goals
              go_wp2_with fail
              go_meet
              exact ⟨rfl, by rw [TRY.out]; rfl, Below.now hbw K6.out⟩
          · have q4 : ∀ x', (wide wr x').cell? ⟨w.heap.size + 1 + 1, 0, none⟩ = some (.slice (some ⟨bp, op, none⟩) ps.length capp) := wide_cell k4
            have HS2 : Hid (∀ x', Calls Tryz.prog 87 #[.slice (some ⟨bp, op, none⟩) ps.length capp, .int .i64 (x : Nat)] (wide wr x') fun e w' => e = .returned (.bool true) ∧ w' = wide wr x') := Lib.hid (fun x' => HS.out _ (Below.now hbw (below_wide wr x')))
            clear k0 k1 k2 k3 k4 kr0 kr
            go_wp2_with fail
            refine region_wide (by kernel_rfl) (by kernel_rfl) ?_
            repeat (quiet_step ((go_at_call 87; refine (HS2.out _).mono ?_; rintro e w2 ⟨rfl, rfl⟩; exact ⟨rfl, _, rfl⟩)))
            refine wpQuiet_nil ?_
            rintro w4 ⟨x4, rfl⟩
            have hb4 := Below.now hbw (below_wide wr x4)
            clear q4 HS2
            go_wp2_with fail
            go_meet
            exact ⟨rfl, by rw [TRY.out]; rfl, hb4⟩
        case rest =>
          obtain ⟨rfl, rfl, hbc⟩ := hcut
          cases tb
          · go_wp2_with fail
            go_roundw
            case rel => exact ⟨x + 1, by omega, by go_num, hbc, Lib.hid (fun y hy => by
              by_cases hyx : y = x
              · rw [hyx]; exact TTT.out.symm
              · exact hall.out y (by omega))⟩
            case measure => simp [intOf]; omega
          · have TF2 := Lib.hid (TF.out rfl)
            go_wp2_with fail
            go_ret
            exact ⟨by rw [TF2.out]; rfl, Below.now B0.out hbc⟩
      · have F := Lib.hid (srch_false (fun y hy => hall.out y (by omega)))
        go_wp2_with fail
        go_ret
        exact ⟨by rw [F.out]; rfl, Below.now B0.out hbw⟩
end Go.Proofs.YtdhaebbfiaddnaaGreatDoor
