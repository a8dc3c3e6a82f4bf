/-
  The reference's search for a renaming.
-/
import Derived.Test.YtkkffaiacipibaaIsoSp
import Derived.Test.YtkkffaiacipibaaAppM
import Derived.Deep.RegionHeld3
import Derived.Deep.CutRange
namespace Go.Proofs.Ytkkffaiacipibaa
open Go.RowKit
set_option linter.unusedVariables false
/-- the search -/
def srch (m : Nat) (ln lu : List Nat) : Nat → List Nat → Bool
  | 0, p => carB m ln lu p
  | f + 1, p => (List.range m).any fun x => !p.contains x && srch m ln lu f (p ++ [x])
def tryB (m : Nat) (ln lu : List Nat) (f : Nat) (p : List Nat) (x : Nat) : Bool := !p.contains x && srch m ln lu f (p ++ [x])
theorem srch_true {m : Nat} {ln lu : List Nat} {f : Nat} {p : List Nat} {x : Nat} (hx : x < m) (h : tryB m ln lu f p x = true) : srch m ln lu (f + 1) p = true := by
  show (List.range m).any (tryB m ln lu f p) = true
  rw [List.any_eq_true]
  exact ⟨x, List.mem_range.2 hx, h⟩
theorem srch_false {m : Nat} {ln lu : List Nat} {f : Nat} {p : List Nat} (h : ∀ x, x < m → tryB m ln lu f p x = false) : srch m ln lu (f + 1) p = false := by
  show (List.range m).any (tryB m ln lu f p) = false
  rw [List.any_eq_false]
  intro x hx
  simp [h x (List.mem_range.1 hx)]
def usedTo (p : List Nat) (x j : Nat) : Bool := (p.take j).contains x
theorem usedTo_succ {p : List Nat} {x j : Nat} (hj : j < p.length) : usedTo p x (j + 1) = (usedTo p x j || (x == nm p j)) := by
  unfold usedTo nm
  rw [List.take_succ_eq_append_getElem hj, List.getD_eq_getElem?_getD, List.getElem?_eq_getElem hj, Bool.eq_iff_iff]
  simp only [List.contains_iff_mem, List.mem_append, List.mem_singleton, Bool.or_eq_true, beq_iff_eq, Option.getD_some]
theorem usedTo_zero (p : List Nat) (x : Nat) : usedTo p x 0 = false := by simp [usedTo]
theorem usedTo_all (p : List Nat) (x : Nat) : usedTo p x p.length = p.contains x := by simp [usedTo]
theorem isoNew (w : World) (o : Obj) : (w.alloc o).heap[w.heap.size]? = some o := by
  show (w.heap.push o)[w.heap.size]? = some o
  exact Array.getElem?_push_size
theorem owns_nats {w : World} {base : Nat} {T : TypeId} {size : Nat} {a : Option Addr} {n m cap : Nat} {l : List Nat} (h : w.ownsRow base T size (.slice a m cap) n (ivs l)) : NatsIn w a l := owns_ints h
theorem bld_at {T : TypeId} {wr W : World} {H : Nat} (hb : Below wr.heap.size wr W) (hH : W.heap[H]? = some (.cells #[] T (0, 0))) (hge : wr.heap.size ≤ H) : Bld T 1 wr W (.slice (some ⟨H, 0, none⟩) 0 0) 0 [] :=
  ⟨⟨rfl, .inr ⟨H, 0, #[], rfl, hge, hH, Nat.le_refl _, Nat.zero_le _, rfl, rfl⟩⟩, hb⟩
theorem src_at {T : TypeId} {W : World} {H : Nat} {y : Value} (hH : W.heap[H]? = some (.cells #[y] T (0, 0))) : Src W (.slice (some ⟨H, 0, none⟩) 1 1) 1 [y] := by
  refine .inr ⟨_, _, rfl, fun j u hu => ?_⟩
  have hj : j = 0 := by have := (List.getElem?_eq_some_iff.1 hu).1; simp at this; omega
  subst hj
  rw [add_off]
  simp at hu
  simp [World.cell?, hH, hu]
theorem Src.grown {w w' : World} {H m c : Nat} {own : Option Nat} {news : List Value} (h : Src w (.slice (some ⟨H, 0, none⟩) m c) m news) (hg : w.grownBy w' own) (hH : H < w.heap.size) (hne : own ≠ some H) : Src w' (.slice (some ⟨H, 0, none⟩) m c) m news := by
  rcases h with ⟨h, _⟩ | ⟨ad, c', hx, hc⟩
  · cases h
  · simp only [Value.slice.injEq, Option.some.injEq, true_and] at hx
    obtain ⟨rfl, rfl⟩ := hx
    refine .inr ⟨_, _, rfl, fun j u hu => ?_⟩
    rw [add_off]
    have h1 := hc j u hu
    rw [add_off] at h1
    rw [World.cell?_of_block (w := w) (hg.block H hH (fun e => hne e.symm))]
    exact h1
section
variable {P : Program}
/-- the same where the operation is guarded -/
theorem step_appM_g {ops : Array Oper} {o : Oper} {a : Act} {K : Act → World → Prop} {Q : Exit → Act → World → Prop} {E : Prop} {T tsl : TypeId} {z : Value} {size bytes : Nat} (hw : Region.wanted o (yielded ops a.tmps) = true) (s x : Operand)
    (ho : o.op = .call { callee := .builtin .append, args := #[s, x], argTypes := #[tsl, tsl] }) (ht : P.underlying tsl = some (.slice T)) (hinfo : (P.info? T).map (fun i => (i.zero, i.size, i.bytes)) = some (some z, size, bytes))
    (hzs : z.cells.size = size) (hpos : 0 < size) {w wr : World} {v u : Value} {n m : Nat} {xs news : List Value} (hs : a.eval s = v) (hb : Bld T size w wr v n xs) (hx : a.eval x = u) (hsrc : Src wr u m news)
    (hn : news.length = m * size) (h1 : ∀ u ∈ news, u.oneCell' = true) (h63 : n + m ≤ maxLen) (hbytes : (n + m) * bytes ≤ 140737488355328)
    (hK : ∀ v' w', Bld T size w w' v' (n + m) (xs ++ news) → wr.grownBy w' v.ownBlock → (v'.ownBlock = v.ownBlock ∨ v'.ownBlock = some wr.heap.size) → K (a.put o.dst v') w') : if Region.wanted o (yielded ops a.tmps) = true then Oper.wp P o a wr K Q else E := by
  rw [if_pos hw]
  obtain ⟨v', w', hr, h2, h3, h4⟩ := run_appM (ty := o.type) ht hinfo hzs hpos hb hsrc hn h1 h63 hbytes
  unfold Oper.wp execOp
  simp only [ho, resolve, invoke, builtin, Sem.run_bind, Sem.run_pure, Result.andThen_ok, List.map_toArray, List.map_cons, List.map_nil, hs, hx, hr]
  exact hK _ _ h2 h3 h4
theorem step_appM_gby {ops : Array Oper} {o : Oper} {a : Act} {K : Act → World → Prop} {Q : Exit → Act → World → Prop} {E : Prop} {T tsl : TypeId} {z : Value} {bytes : Nat} (hg : Region.wanted o (yielded ops a.tmps) = true) (s x : Operand)
    (ho : o.op = .call { callee := .builtin .append, args := #[s, x], argTypes := #[tsl, tsl] }) (ht : P.underlying tsl = some (.slice T)) (hinfo : (P.info? T).map (fun i => (i.zero, i.size, i.bytes)) = some (some z, 1, bytes))
    (hzs : z.cells.size = 1) {w wr : World} {H H2 : Nat} {u y : Value} {m : Nat} {news : List Value} (hs : a.eval s = .slice (some ⟨H, 0, none⟩) 0 0) (hb : Bld T 1 w wr (.slice (some ⟨H, 0, none⟩) 0 0) 0 []) (hx : a.eval x = u) (hsrc : Src wr u m news)
    (hy : Src wr (.slice (some ⟨H2, 0, none⟩) 1 1) 1 [y]) (hH : H ≠ H2) (hH2 : H2 < wr.heap.size)
    (hn : news.length = m) (h1 : ∀ u ∈ news, u.oneCell' = true) (h63 : m ≤ maxLen) (hbytes : m * bytes ≤ 140737488355328)
    (hK : ∀ v' w', Bld T 1 w w' v' m news → Src w' (.slice (some ⟨H2, 0, none⟩) 1 1) 1 [y] → K (a.put o.dst v') w') : if Region.wanted o (yielded ops a.tmps) = true then Oper.wp P o a wr K Q else E := by
  refine step_appM_g hg s x ho ht hinfo hzs (by omega) hs hb hx hsrc (by omega) h1 (by omega) (by rw [Nat.zero_add]; exact hbytes) fun v' w' h2 hgr _ => ?_
  rw [Nat.zero_add, List.nil_append] at h2
  exact hK v' w' h2 (hy.grown hgr hH2 (fun e => hH (by simpa [Value.ownBlock] using e)))
end
theorem nm_cells' {w : World} {a : Option Addr} {ps : List Nat} (h : NatsIn w a ps) (hm : 0 < ps.length) :
    ∃ b off, a = some ⟨b, off, none⟩ ∧ ∀ W, Below w.heap.size w W → ∀ j, j < ps.length → W.cell? ⟨b, off + j, none⟩ = some (.int .i64 ((nm ps j : Nat) : Int)) := nm_cells h rfl hm
set_option maxRecDepth 20000 in
set_option maxHeartbeats 4000000 in
theorem l13Search_any (m : Nat) (ln lu : List Nat) (a au : Option Addr) (len cap lenu capu : Nat) (hT : Tb m ln) (hU : Tb m lu) (hlen : len = m * m) (hlenu : lenu = m * m) :
    ∀ (f : Nat) (ps : List Nat) (ap : Option Addr) (capp : Nat) (w : World), NatsIn w a ln → NatsIn w au lu → NatsIn w ap ps → ps.length + f = m → (∀ y ∈ ps, y < m) → 0 ∈ ps →
    Calls Try.prog 65 #[.agg #[.int .i64 m, .slice a len cap], .agg #[.int .i64 m, .slice au lenu capu], .slice ap ps.length capp] w fun e w' => e = .returned (.bool (srch m ln lu f ps)) ∧ Below w.heap.size w w' := by
  intro f
  induction f with
  | zero =>
    intro ps ap capp w hl hu hp hf hlt h0
    have hps : ps.length = m := hf
    have HT := Lib.hid hT
    have HA := Lib.hid hl
    have HB := Lib.hid hu
    have HC := Lib.hid hp
    have HQ := Lib.hid hlt
    have HP := Lib.hid hps
    have hpos := hT.lo
    have hm := hT.hi
    have HU := Lib.hid hU
    have HL := Lib.hid hlen
    have HLU := Lib.hid hlenu
    have FS : Hid (srch m ln lu 0 ps = carB m ln lu ps) := Lib.hid rfl
    rw [hps]
    clear hps hl hu hp hf hlt h0 hT hU hlen hlenu
    go_enter Try.func65, Try.ntmps65
    go_wp2_with (go_at_call 96; refine (l13Carries_any m ln lu ps a au ap _ _ _ _ _ _ (HA.out.later (by repeat (first | exact Below.refl _ _ | refine Below.alloc ?_ (by simp; try omega) _))) (HB.out.later (by repeat (first | exact Below.refl _ _ | refine Below.alloc ?_ (by simp; try omega) _))) (HC.out.later (by repeat (first | exact Below.refl _ _ | refine Below.alloc ?_ (by simp; try omega) _))) HT.out HU.out HL.out HLU.out HP.out HQ.out).mono ?_; rintro e w2 ⟨rfl, hb2⟩; have B2 := Lib.hid hb2; clear hb2)
    go_ret
    exact ⟨by rw [FS.out]; rfl, Below.now (by repeat (first | exact Below.refl _ _ | refine Below.alloc ?_ (by simp; try omega) _)) B2.out⟩
  | succ f ih =>
    intro ps ap capp w hl hu hp hf hlt h0
    have hpos := hT.lo
    have hm := hT.hi
    have hpl : ps.length < m := by omega
    have hp0 : 0 < ps.length := List.length_pos_of_mem h0
    have hq1 : (((ps.length : Nat) : Int) == ((m : Nat) : Int)) = false := by rw [beq_eq_false_iff_ne]; omega
    have HT := Lib.hid hT
    have HA := Lib.hid hl
    have HB := Lib.hid hu
    have HF := Lib.hid hf
    have HQ := Lib.hid hlt
    have H0 := Lib.hid h0
    have IH := Lib.hid ih
    have HP := Lib.hid hp
    obtain ⟨bp, op, rfl, hc⟩ := nm_cells' hp hp0
    have HC := Lib.hid hc
    clear hl hu hp hf hlt h0 hT hU hlen hlenu hc ih
    go_enter Try.func65, Try.ntmps65
    go_wp2_with fail
    have B0 : Hid (Below w.heap.size w ((w.alloc (.cells #[.int .i64 m, .slice a len cap] 27)).alloc (.cells #[.int .i64 m, .slice au lenu capu] 27))) := Lib.hid (((Below.refl _ _).alloc (Nat.le_refl _) _).alloc (by simp) _)
    have X1 := isoLo w (.cells #[.int .i64 m, .slice a len cap] 27) (.cells #[.int .i64 m, .slice au lenu capu] 27)
    have X2 := isoHi w (.cells #[.int .i64 m, .slice a len cap] 27) (.cells #[.int .i64 m, .slice au lenu capu] 27)
    have hs2 : ((w.alloc (.cells #[.int .i64 m, .slice a len cap] 27)).alloc (.cells #[.int .i64 m, .slice au lenu capu] 27)).heap.size = w.heap.size + 2 := by simp
    generalize ((w.alloc (.cells #[.int .i64 m, .slice a len cap] 27)).alloc (.cells #[.int .i64 m, .slice au lenu capu] 27)) = W0 at *
    have K1 : Hid (∀ W, Below W0.heap.size W0 W → W.cell? ⟨w.heap.size, 0, none⟩ = some (.int .i64 m) ∧ W.cell? ⟨w.heap.size, 1, none⟩ = some (.slice a len cap) ∧ W.cell? ⟨w.heap.size + 1, 0, none⟩ = some (.int .i64 m) ∧ W.cell? ⟨w.heap.size + 1, 1, none⟩ = some (.slice au lenu capu)) := Lib.hid (fun W hW => by
      have e1 := (hW.block w.heap.size (by omega)).trans X1
      have e2 := (hW.block (w.heap.size + 1) (by omega)).trans X2
      refine ⟨by simp [World.cell?, e1], by simp [World.cell?, e1], by simp [World.cell?, e2], by simp [World.cell?, e2]⟩)
    clear X1 X2 hs2
    go_wp2_with fail
    go_loopw [7] (fun i wr => ∃ x : Nat, 1 ≤ x ∧ x ≤ m ∧ i = .int .i64 x ∧ Below W0.heap.size W0 wr ∧ Hid (∀ y, y < x → tryB m ln lu f ps y = false)) (fun i _ => m - (intOf i).toNat)
    case atStart => exact ⟨1, Nat.le_refl _, hpos, rfl, Below.refl _ _, Lib.hid (fun y hy => by
      obtain rfl : y = 0 := by omega
      unfold tryB
      rw [List.contains_iff_mem.2 H0.out]; rfl)⟩
    case round =>
      obtain ⟨x, hx1, hxm, rfl, hbw, hall⟩ := hrel
      have z0 := (K1.out _ hbw).1
      by_cases hxi : x < m
      · go_wp2_with fail
        clear z0
        generalize hW : wr = wr0 at *
        clear hW
        go_loopw [8, 28] (fun v i wr => ∃ j : Nat, j ≤ ps.length ∧ i = .int .i64 j ∧ v = .bool (usedTo ps x j) ∧ wr = wr0) (fun _ i _ => ps.length - (intOf i).toNat)
        case atStart => exact ⟨0, Nat.zero_le _, rfl, by rw [usedTo_zero], rfl⟩
        case round =>
          obtain ⟨j, hj, rfl, rfl, hw⟩ := hrel
          replace hw := hw.symm
          subst hw
          by_cases hji : j < ps.length
          · have hcj := HC.out _ (Below.now B0.out hbw) j hji
            have HS := Lib.hid (usedTo_succ (x := x) hji)
            generalize nm ps j = y at *
            cases hu : usedTo ps x j
            · by_cases hxy : x = y
              · subst hxy
                go_wp2_with fail
                go_roundw
                case rel => exact ⟨j + 1, by omega, by go_num, by rw [HS.out, hu]; simp, by trivial⟩
                case measure => simp [intOf]; omega
              · have hxy2 : ¬ ((x : Nat) : Int) = ((y : Nat) : Int) := by omega
                go_wp2_with fail
                go_roundw
                case rel => exact ⟨j + 1, by omega, by go_num, by rw [HS.out, hu]; simp; try (rw [Bool.eq_iff_iff]; simp; try omega), by trivial⟩
                case measure => simp [intOf]; omega
            · go_wp2_with fail
              go_roundw
              case rel => exact ⟨j + 1, by omega, by go_num, by rw [HS.out, hu]; simp, by trivial⟩
              case measure => simp [intOf]; omega
          · obtain rfl : j = ps.length := by omega
            rw [usedTo_all]
            have TRY : Hid (tryB m ln lu f ps x = (!ps.contains x && srch m ln lu f (ps ++ [x]))) := Lib.hid rfl
            generalize ps.contains x = cb at *
            go_upto_region 12 with fail
            go_cut [51] from 20 to 51 (fun v wx => v = .bool (tryB m ln lu f ps x) ∧ Below W0.heap.size W0 wx)
            case first =>
              cases cb
              · have TR : Hid (tryB m ln lu f ps x = (!false && srch m ln lu f (ps ++ [x]))) := TRY
                have HLEN : Hid ((ps ++ [x]).length = ps.length + 1) := Lib.hid (by simp)
                have IHC : Hid (∀ (g c : Nat) (W : World), Below W0.heap.size W0 W → W.ownsRow wr0.heap.size 3 1 (.slice (some ⟨g, 0, none⟩) (ps.length + 1) c) (ps.length + 1) (ivs ps ++ [.int .i64 (x : Nat)]) → Calls Try.prog 65 #[.agg #[.int .i64 m, .slice a len cap], .agg #[.int .i64 m, .slice au lenu capu], .slice (some ⟨g, 0, none⟩) (ps.length + 1) c] W fun e w' => e = .returned (.bool (srch m ln lu f (ps ++ [x]))) ∧ Below W.heap.size W w') := Lib.hid (fun g c W hW ho => by
                  have h1 := IH.out (ps ++ [x]) (some ⟨g, 0, none⟩) c W (HA.out.later (Below.now B0.out hW)) (HB.out.later (Below.now B0.out hW)) (owns_nats (by rw [ivs_app]; exact ho)) (by rw [HLEN.out]; have := HF.out; omega) (fun y hy => by
                    rcases List.mem_append.1 hy with h | h
                    · exact HQ.out y h
                    · rw [List.mem_singleton.1 h]; exact hxi) (List.mem_append.2 (.inl H0.out))
                  rw [HLEN.out] at h1
                  exact h1)
                have HW : Hid (Below W0.heap.size W0 wr0) := Lib.hid hbw
                have HSV : Hid (∀ W, Below W0.heap.size W0 W → Src W (.slice (some ⟨bp, op, none⟩) ps.length capp) ps.length (ivs ps)) := Lib.hid (fun W hW => .inr ⟨_, _, rfl, fun j u hu => by
                  obtain ⟨hjl, _⟩ := List.getElem?_eq_some_iff.1 hu
                  have hjl2 : j < ps.length := by simpa [ivs, intVals] using hjl
                  rw [ivs_get hjl2] at hu
                  rw [add_off, HC.out W (Below.now B0.out hW) j hjl2]
                  exact hu⟩)
                have N1 : Hid ((ivs ps).length = ps.length) := Lib.hid (by simp [ivs, intVals])
                have N1b : Hid ((ivs ps).length = ps.length * 1) := Lib.hid (by simp [ivs, intVals])
                have N2 : Hid (∀ u ∈ ivs ps, u.oneCell' = true) := Lib.hid (fun u hu => by
                  obtain ⟨_, _, rfl⟩ := List.mem_map.1 hu; rfl)
                have N3 : Hid (ps.length ≤ maxLen) := Lib.hid (by unfold maxLen; omega)
                have N4 : Hid (ps.length * 8 ≤ 140737488355328) := Lib.hid (by omega)
                have N3b : Hid (0 + ps.length ≤ maxLen) := Lib.hid (by unfold maxLen; omega)
                have N4b : Hid ((0 + ps.length) * 8 ≤ 140737488355328) := Lib.hid (by omega)
                have M1 : Hid (∀ u ∈ [Value.int .i64 ((x : Nat) : Int)], u.oneCell' = true) := Lib.hid (fun u hu => by rw [List.mem_singleton.1 hu]; rfl)
                have M3 : Hid (ps.length + 1 ≤ maxLen) := Lib.hid (by unfold maxLen; omega)
                have M4 : Hid ((ps.length + 1) * 8 ≤ 140737488355328) := Lib.hid (by omega)
                obtain ⟨k0, k1, k2, k3⟩ := K1.out _ hbw
                have TF : Hid (srch m ln lu f (ps ++ [x]) = true → srch m ln lu (f + 1) ps = true) := Lib.hid (fun h => srch_true hxi (by rw [TR.out, h]; rfl))
                generalize srch m ln lu f (ps ++ [x]) = r at *
                clear TF
                go_wp2_with fail
                go_region_held3 (fun w' => w'.cell? ⟨w.heap.size, 0, none⟩ = some (.int .i64 m) ∧ w'.cell? ⟨w.heap.size, 1, none⟩ = some (.slice a len cap) ∧ w'.cell? ⟨w.heap.size + 1, 0, none⟩ = some (.int .i64 m) ∧ w'.cell? ⟨w.heap.size + 1, 1, none⟩ = some (.slice au lenu capu)) (go_keep) (first
                  | (refine step_appM_gby (w := wr0) (H := wr0.heap.size) (H2 := wr0.heap.size + 1) (y := .int .i64 (x : Nat)) (by first | rfl | simp [Region.wanted, yielded, go_sem]) (.tmp 44) (.tmp 45) (by rfl) Try.underlying22 Try.infoInt rfl (by rfl) (bld_at (by repeat (first | exact Below.refl _ _ | refine Below.drew ?_ | refine below_drewN ?_ _ | refine Below.alloc ?_ (by simp; try omega) _)) (by first | exact isoLo _ _ _ | exact isoHi _ _ _ | exact isoNew _ _) (by omega)) (by rfl) (HSV.out _ (by repeat (first | exact HW.out | refine Below.drew ?_ | refine below_drewN ?_ _ | refine Below.alloc ?_ (by have := HW.out.size; simp; try omega) _))) (src_at (T := 3) (by first | exact isoLo _ _ _ | exact isoHi _ _ _ | exact isoNew _ _)) (by omega) (by simp; try omega) N1.out N2.out N3.out N4.out ?_; intro v46 w46 hb46 hs48; have H46 : Hid (Bld 3 1 wr0 w46 v46 ps.length (ivs ps)) := Lib.hid hb46; have S48 := Lib.hid hs48; have s0 : w46.cell? ⟨w.heap.size, 0, none⟩ = some (.int .i64 m) := (K1.out _ (Below.now hbw H46.out.2)).1; have s1 : w46.cell? ⟨w.heap.size, 1, none⟩ = some (.slice a len cap) := (K1.out _ (Below.now hbw H46.out.2)).2.1; have s2 : w46.cell? ⟨w.heap.size + 1, 0, none⟩ = some (.int .i64 m) := (K1.out _ (Below.now hbw H46.out.2)).2.2.1; have s3 : w46.cell? ⟨w.heap.size + 1, 1, none⟩ = some (.slice au lenu capu) := (K1.out _ (Below.now hbw H46.out.2)).2.2.2; clear hb46 hs48)
                  | (refine step_appM_gby (w := wr0) (H := wr0.heap.size + 1) (H2 := wr0.heap.size) (y := .int .i64 (x : Nat)) (by first | rfl | simp [Region.wanted, yielded, go_sem]) (.tmp 44) (.tmp 45) (by rfl) Try.underlying22 Try.infoInt rfl (by rfl) (bld_at (by repeat (first | exact Below.refl _ _ | refine Below.drew ?_ | refine below_drewN ?_ _ | refine Below.alloc ?_ (by simp; try omega) _)) (by first | exact isoLo _ _ _ | exact isoHi _ _ _ | exact isoNew _ _) (by omega)) (by rfl) (HSV.out _ (by repeat (first | exact HW.out | refine Below.drew ?_ | refine below_drewN ?_ _ | refine Below.alloc ?_ (by have := HW.out.size; simp; try omega) _))) (src_at (T := 3) (by first | exact isoLo _ _ _ | exact isoHi _ _ _ | exact isoNew _ _)) (by omega) (by simp; try omega) N1.out N2.out N3.out N4.out ?_; intro v46 w46 hb46 hs48; have H46 : Hid (Bld 3 1 wr0 w46 v46 ps.length (ivs ps)) := Lib.hid hb46; have S48 := Lib.hid hs48; have s0 : w46.cell? ⟨w.heap.size, 0, none⟩ = some (.int .i64 m) := (K1.out _ (Below.now hbw H46.out.2)).1; have s1 : w46.cell? ⟨w.heap.size, 1, none⟩ = some (.slice a len cap) := (K1.out _ (Below.now hbw H46.out.2)).2.1; have s2 : w46.cell? ⟨w.heap.size + 1, 0, none⟩ = some (.int .i64 m) := (K1.out _ (Below.now hbw H46.out.2)).2.2.1; have s3 : w46.cell? ⟨w.heap.size + 1, 1, none⟩ = some (.slice au lenu capu) := (K1.out _ (Below.now hbw H46.out.2)).2.2.2; clear hb46 hs48)
                  | (refine step_appM_g (w := wr0) (by first | rfl | simp [Region.wanted, yielded, go_sem]) (.tmp 44) (.tmp 45) (by rfl) Try.underlying22 Try.infoInt rfl (by decide) (by rfl) (bld_at (by repeat (first | exact Below.refl _ _ | refine Below.drew ?_ | refine below_drewN ?_ _ | refine Below.alloc ?_ (by simp; try omega) _)) (by first | exact isoLo _ _ _ | exact isoHi _ _ _ | exact isoNew _ _) (by omega)) (by rfl) (HSV.out _ (by repeat (first | exact HW.out | refine Below.drew ?_ | refine below_drewN ?_ _ | refine Below.alloc ?_ (by have := HW.out.size; simp; try omega) _))) N1b.out N2.out N3b.out N4b.out ?_; intro v46 w46 hb46 hg46 ho46; rw [Nat.zero_add, List.nil_append] at hb46; have H46 : Hid (Bld 3 1 wr0 w46 v46 ps.length (ivs ps)) := Lib.hid hb46; have s0 : w46.cell? ⟨w.heap.size, 0, none⟩ = some (.int .i64 m) := (K1.out _ (Below.now hbw H46.out.2)).1; have s1 : w46.cell? ⟨w.heap.size, 1, none⟩ = some (.slice a len cap) := (K1.out _ (Below.now hbw H46.out.2)).2.1; have s2 : w46.cell? ⟨w.heap.size + 1, 0, none⟩ = some (.int .i64 m) := (K1.out _ (Below.now hbw H46.out.2)).2.2.1; have s3 : w46.cell? ⟨w.heap.size + 1, 1, none⟩ = some (.slice au lenu capu) := (K1.out _ (Below.now hbw H46.out.2)).2.2.2; clear hb46 hg46 ho46)
                  | (refine step_appM_g (w := wr0) (by first | rfl | simp [Region.wanted, yielded, go_sem]) (.tmp 46) (.tmp 48) (by rfl) Try.underlying22 Try.infoInt rfl (by decide) (by rfl) (H46.out.later ((Below.refl _ _).alloc (Nat.le_refl _) _)) (by rfl) (src_at (T := 3) (H := w46.heap.size) (isoNew _ _)) (by rfl) M1.out M3.out M4.out ?_; intro v49 w49 hb49 hg49 ho49; obtain ⟨g5, c5, hv5⟩ := owns_some hb49.1 (by omega); subst hv5; have H49 : Hid (Bld 3 1 wr0 w49 (.slice (some ⟨g5, 0, none⟩) (ps.length + 1) c5) (ps.length + 1) (ivs ps ++ [.int .i64 (x : Nat)])) := Lib.hid hb49; have t0 : w49.cell? ⟨w.heap.size, 0, none⟩ = some (.int .i64 m) := (K1.out _ (Below.now hbw H49.out.2)).1; have t1 : w49.cell? ⟨w.heap.size, 1, none⟩ = some (.slice a len cap) := (K1.out _ (Below.now hbw H49.out.2)).2.1; have t2 : w49.cell? ⟨w.heap.size + 1, 0, none⟩ = some (.int .i64 m) := (K1.out _ (Below.now hbw H49.out.2)).2.2.1; have t3 : w49.cell? ⟨w.heap.size + 1, 1, none⟩ = some (.slice au lenu capu) := (K1.out _ (Below.now hbw H49.out.2)).2.2.2; clear hb49 hg49 ho49)
                  | (refine step_appM_g (w := wr0) (by first | rfl | simp [Region.wanted, yielded, go_sem]) (.tmp 46) (.tmp 48) (by rfl) Try.underlying22 Try.infoInt rfl (by decide) (by rfl) H46.out (by rfl) S48.out (by rfl) M1.out M3.out M4.out ?_; intro v49 w49 hb49 hg49 ho49; obtain ⟨g5, c5, hv5⟩ := owns_some hb49.1 (by omega); subst hv5; have H49 : Hid (Bld 3 1 wr0 w49 (.slice (some ⟨g5, 0, none⟩) (ps.length + 1) c5) (ps.length + 1) (ivs ps ++ [.int .i64 (x : Nat)])) := Lib.hid hb49; have t0 : w49.cell? ⟨w.heap.size, 0, none⟩ = some (.int .i64 m) := (K1.out _ (Below.now hbw H49.out.2)).1; have t1 : w49.cell? ⟨w.heap.size, 1, none⟩ = some (.slice a len cap) := (K1.out _ (Below.now hbw H49.out.2)).2.1; have t2 : w49.cell? ⟨w.heap.size + 1, 0, none⟩ = some (.int .i64 m) := (K1.out _ (Below.now hbw H49.out.2)).2.2.1; have t3 : w49.cell? ⟨w.heap.size + 1, 1, none⟩ = some (.slice au lenu capu) := (K1.out _ (Below.now hbw H49.out.2)).2.2.2; clear hb49 hg49 ho49)
                  | (go_at_call 65; refine (IHC.out g5 c5 _ (Below.now hbw H49.out.2) H49.out.1).mono ?_; rintro e w6 ⟨rfl, hb6⟩; have K6 : Hid (Below wr0.heap.size wr0 w6) := Lib.hid (Below.now H49.out.2 hb6); have r0 : w6.cell? ⟨w.heap.size, 0, none⟩ = some (.int .i64 m) := (K1.out _ (Below.now hbw K6.out)).1; have r1 : w6.cell? ⟨w.heap.size, 1, none⟩ = some (.slice a len cap) := (K1.out _ (Below.now hbw K6.out)).2.1; have r2 : w6.cell? ⟨w.heap.size + 1, 0, none⟩ = some (.int .i64 m) := (K1.out _ (Below.now hbw K6.out)).2.2.1; have r3 : w6.cell? ⟨w.heap.size + 1, 1, none⟩ = some (.slice au lenu capu) := (K1.out _ (Below.now hbw K6.out)).2.2.2; clear hb6))
                all_goals
                  go_wp2_with fail
                  go_meet
                  exact ⟨by rw [TR.out]; rfl, Below.now hbw K6.out⟩
              · have TR : Hid (tryB m ln lu f ps x = (!true && srch m ln lu f (ps ++ [x]))) := TRY
                obtain ⟨k0, k1, k2, k3⟩ := K1.out _ hbw
                go_wp2_with fail
                go_region
                clear k0 k1 k2 k3
                go_wp2_with fail
                go_meet
                exact ⟨by rw [TR.out]; rfl, Below.now hbw (by repeat (first | exact Below.refl _ _ | refine Below.drew ?_ | refine below_drewN ?_ _))⟩
            case rest =>
              obtain ⟨rfl, hbc⟩ := hcut
              cases htr : tryB m ln lu f ps x
              · have TR := Lib.hid htr
                clear htr
                go_wp2_with fail
                go_roundw
                case rel => exact ⟨x + 1, by omega, by omega, by go_num, hbc, Lib.hid (fun y hy => by
                  by_cases hyx : y = x
                  · rw [hyx, TR.out]
                  · exact hall.out y (by omega))⟩
                case measure => simp [intOf]; omega
              · have TF := Lib.hid (srch_true hxi htr)
                clear htr
                go_wp2_with fail
                go_ret
                exact ⟨by rw [TF.out]; rfl, Below.now B0.out hbc⟩
      · have F := Lib.hid (srch_false (fun y hy => hall.out y (by omega)))
        go_wp2_with fail
        go_ret
        exact ⟨by rw [F.out]; rfl, Below.now B0.out hbw⟩
end Go.Proofs.Ytkkffaiacipibaa
