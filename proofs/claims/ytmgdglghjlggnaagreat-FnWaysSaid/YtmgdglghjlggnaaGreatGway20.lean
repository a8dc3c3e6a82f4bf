/-
  All reduced words of a length, in order, as plain data.
-/
import Derived.Test.YtmgdglghjlggnaaGreatGway18
import Derived.Test.YtmgdglghjlggnaaGreatGway08
import Derived.Test.YtmgdglghjlggnaaGreatGway13
import Derived.Test.YtmgdglghjlggnaaGreatGway19
import Derived.Test.YtmgdglghjlggnaaGreatGway14
import Derived.Sort.Walk0
namespace Go.Proofs.YtmgdglghjlggnaaGreat
open Go.RowKit
set_option linter.unusedVariables false
theorem ApartW.add {V : WayD} (hap : ApartW V) (a c : Nat) : ApartW (addW V a c) := by
  unfold ApartW addW
  rw [List.pairwise_iff_getElem]
  intro i j hi hj hij
  have h1 := (List.pairwise_iff_getElem.1 hap) i j (by simpa using hi) (by simpa using hj) hij
  rw [List.getElem_modify, List.getElem_modify]
  split <;> split <;> exact h1
theorem ApartW.push {V : WayD} (hap : ApartW V) {v : ByteArray} {c : Nat} (hv : ∀ p ∈ V, p.1 ≠ v) : ApartW (V ++ [(v, c)]) := by
  unfold ApartW
  rw [List.pairwise_append]
  exact ⟨hap, List.pairwise_singleton _ _, fun p hp q hq => by rw [List.mem_singleton.1 hq]; exact hv p hp⟩
def EndsW (k : Nat) (V : WayD) : Prop := ∀ p ∈ V, EndP k p.1
theorem EndsW.add {k : Nat} {V : WayD} (h : EndsW k V) (a c : Nat) : EndsW k (addW V a c) := fun p hp => by
  unfold addW at hp
  obtain ⟨j, hj, he⟩ := List.getElem_of_mem hp
  rw [List.getElem_modify] at he
  have h1 := h _ (List.getElem_mem (show j < V.length by simpa using hj))
  split at he
  · rw [← he]; exact h1
  · rw [← he]; exact h1
theorem EndsW.push {k : Nat} {V : WayD} (h : EndsW k V) {v : ByteArray} {c : Nat} (hv : EndP k v) : EndsW k (V ++ [(v, c)]) := fun p hp => by
  rcases List.mem_append.1 hp with hp | hp
  · exact h p hp
  · rw [List.mem_singleton.1 hp]; exact hv
theorem apart_few {k : Nat} (hk : k ≤ 4) {V : WayD} (h : ApartW V) (he : EndsW k V) : V.length ≤ 21845 := by
  have h1 := ends_few hk (l := V.map (·.1)) (by
    unfold List.Nodup
    rw [List.pairwise_map]
    exact h) (fun e hm => by
    obtain ⟨p, hp, rfl⟩ := List.mem_map.1 hm
    exact he p hp)
  simpa using h1
/-- the ways of a length, the ends apart -/
structure WayAtA (R : List RulD) (k i : Nat) (W : WayD) : Prop where
  way : WayAt R k i W
  apart : ApartW W
  ends : EndsW k W
theorem WayAtA.start (R : List RulD) (k : Nat) : WayAtA R k 0 [(⟨#[]⟩, 1)] := ⟨WayAt.start R k, List.pairwise_singleton _ _, fun p hp => by rw [List.mem_singleton.1 hp]; exact EndP.nil k⟩
theorem WayAtA.few {R : List RulD} {k i : Nat} {W : WayD} (hk : k ≤ 4) (h : WayAtA R k i W) : W.length ≤ 21845 := apart_few hk h.apart h.ends
structure WayTA (R : List RulD) (k : Nat) (W : WayD) (i j : Nat) (e : ByteArray) (c : Nat) (V : WayD) : Prop where
  way : WayTo R k W i j e c V
  apart : ApartW V
  ends : EndsW k V
theorem WayTA.start (R : List RulD) (k : Nat) (W : WayD) (e : ByteArray) (c : Nat) : WayTA R k W 0 0 e c [] := ⟨WayTo.start R k W e c, List.Pairwise.nil, fun p hp => by cases hp⟩
theorem WayTA.few {R : List RulD} {k : Nat} {W V : WayD} {i j c : Nat} {e : ByteArray} (hk : k ≤ 4) (h : WayTA R k W i j e c V) : V.length ≤ 21845 := apart_few hk h.apart h.ends
theorem WayTA.no {R : List RulD} {k : Nat} {W V : WayD} {i j c : Nat} {e : ByteArray} (h : WayTA R k W i j e c V) (hx : okX R e j = false) : WayTA R k W i (j + 1) e c V := ⟨h.way.no hx, h.apart, h.ends⟩
theorem WayTA.old {R : List RulD} {k : Nat} {W V : WayD} {i j c a : Nat} {e : ByteArray} (h : WayTA R k W i j e c V) (hx : okX R e j = true) (ha : a < V.length) (he : V[a].1 = nxtX R e j) : WayTA R k W i (j + 1) e c (addW V a c) :=
  ⟨h.way.old hx ha he, h.apart.add _ _, h.ends.add _ _⟩
theorem WayTA.new {R : List RulD} {k : Nat} {W V : WayD} {i j c : Nat} {e : ByteArray} (h : WayTA R k W i j e c V) (hx : okX R e j = true) (hc : 1 ≤ c) (hn : ∀ p ∈ V, p.1 ≠ nxtX R e j) (hE : EndP k (nxtX R e j)) : WayTA R k W i (j + 1) e c (V ++ [(nxtX R e j, c)]) :=
  ⟨h.way.new hx hc, h.apart.push hn, h.ends.push hE⟩
theorem WayTA.row {R : List RulD} {k : Nat} {W V : WayD} {i : Nat} (hi : i < W.length) (h : WayTA R k W i k W[i].1 W[i].2 V) (e : ByteArray) (c : Nat) : WayTA R k W (i + 1) 0 e c V := ⟨h.way.row hi e c, h.apart, h.ends⟩
theorem WayTA.other {R : List RulD} {k : Nat} {W V : WayD} {i : Nat} {e e' : ByteArray} {c c' : Nat} (h : WayTA R k W i 0 e c V) : WayTA R k W i 0 e' c' V := ⟨h.way.other, h.apart, h.ends⟩
theorem WayTA.done {R : List RulD} {k n : Nat} {W V : WayD} {e : ByteArray} {c : Nat} (hW : WayAtA R k n W) (h : WayTA R k W W.length 0 e c V) : WayAtA R k (n + 1) V := ⟨h.way.done hW.way, h.apart, h.ends⟩
theorem WayTA.le {R : List RulD} {k n : Nat} {W V : WayD} {i j : Nat} (hW : WayAtA R k n W) (hi : i < W.length) (hj : j ≤ k) (h : WayTA R k W i j W[i].1 W[i].2 V) : wsum R k 0 V ≤ paths R k (n + 1) ⟨#[]⟩ := by
  rw [h.way.eq 0]
  have h1 := wsum_take_le R k (0 + 1) W (i + 1)
  rw [wsum_take _ _ _ _ hi, paths_succ] at h1
  have h2 := pTo_mono R k 0 W[i].1 hj
  have h3 : W[i].2 * pTo R k 0 W[i].1 j ≤ W[i].2 * pTo R k 0 W[i].1 k := Nat.mul_le_mul_left _ h2
  have h4 := hW.way.eq (0 + 1)
  have h6 : n + (0 + 1) = n + 1 := by omega
  rw [h6] at h4
  omega
end Go.Proofs.YtmgdglghjlggnaaGreat
namespace Go.Proofs.YtmgdglghjlggnaaGreat
open Go.RowKit
set_option linter.unusedVariables false
/-- what l07Next hands back -/
def RetWaysA (R : List RulD) (k n : Nat) (w : World) (e : Ending) (w' : World) : Prop :=
  ∃ V a c a2 c2, e = .returned (.tuple #[.slice a V.length c, .slice a2 V.length c2]) ∧ WayAtA R k (n + 1) V ∧ WaysIn w' a a2 V ∧ Below w.heap.size w w' ∧ (∀ x, a = some x → w.heap.size ≤ x.block ∧ x.block < w'.heap.size) ∧ ∀ x, a2 = some x → w.heap.size ≤ x.block ∧ x.block < w'.heap.size
set_option maxRecDepth 100000 in
set_option maxHeartbeats 4000000 in
theorem l07NextA_any (k n : Nat) (R : List RulD) (W : WayD) (a ae ac : Option Addr) (cap ce cc : Nat) (w : World) (hl : RulesIn w a R) (hlen : R.length ≤ 2 ^ 40) (hz : ∀ j, j < R.length → (nthR R j).1.size ≤ 8 ∧ (nthR R j).2.size ≤ 8) (hk : k ≤ 4) (hT : paths R k n ⟨#[]⟩ ≤ topB) (hT1 : paths R k (n + 1) ⟨#[]⟩ ≤ topB) (G : SysG R k) (hW : WayAtA R k n W) (hI : WaysIn w ae ac W) :
    Calls Tryz.prog 98 #[.agg #[.int .i64 (k : Nat), .slice a R.length cap], .slice ae W.length ce, .slice ac W.length cc] w (RetWaysA R k n w) := by
  have HL := Lib.hid hl
  have HZ := Lib.hid hz
  have HWA := Lib.hid hW
  have HI := Lib.hid hI
  have HSZ : Hid (SzR R) := Lib.hid (fun j hj => by have := hz j hj; unfold maxLen; omega)
  have hWl : W.length ≤ 17179869184 := by
    have h1 := hW.few hk
    omega
  have hk7 : keepR R ≤ 8 := by
    have key : ∀ j, j ≤ R.length → lsTo R j ≤ 8 := fun j => by
      induction j with
      | zero => intro _; exact Nat.zero_le _
      | succ j ih =>
        intro h
        have h1 := ih (by omega)
        have h2 := (hz j (by omega)).1
        show max _ _ ≤ _
        omega
    have h1 := key R.length (Nat.le_refl _)
    unfold keepR lsL
    omega
  have HK7 := Lib.hid hk7
  have kc := convC
  clear hl hz hW hI hk7
  go_enter Tryz.func98, Tryz.ntmps98
  go_wp2_with fail
  obtain ⟨w0, hw0⟩ : ∃ w0, w0 = w.alloc (.cells #[.int .i64 (k : Nat), .slice a R.length cap] 67) := ⟨_, rfl⟩
  have hb0 : Below w.heap.size w w0 := by rw [hw0]; exact alloc_belowS _ _
  have hbx : w0.heap[w.heap.size]? = some (.cells #[.int .i64 (k : Nat), .slice a R.length cap] 67 (0, 0)) := by rw [hw0]; exact alloc_at _ _
  have hs0 : w0.heap.size = w.heap.size + 1 := by rw [hw0]; simp
  have HW0 : Hid (Ways w0 ((w0.alloc (.cells #[] 9)).alloc (.cells #[] 3)) (.slice (some ⟨w.heap.size + 1, 0, none⟩) 0 0) (.slice (some ⟨w.heap.size + 1 + 1, 0, none⟩) 0 0) []) := Lib.hid (by
    have h1 := (Bld.empty 9 1 w0).later (alloc_belowS _ (.cells #[] 3))
    have h2 := (Bld.empty 3 1 (w0.alloc (.cells #[] 9))).since (alloc_belowS w0 (.cells #[] 9))
    rw [hs0] at h1
    rw [show (w0.alloc (.cells #[] 9)).heap.size = w.heap.size + 1 + 1 by simp [hs0]] at h2
    exact ⟨h1, h2, fun kk hk2 e => by simp only [Value.ownBlock, Option.some.injEq] at hk2 e; omega⟩)
  have HBX : Hid (∀ W2, Below w0.heap.size w0 W2 → W2.cell? ⟨w.heap.size, 0, none⟩ = some (.int .i64 (k : Nat)) ∧ W2.cell? ⟨w.heap.size, 1, none⟩ = some (.slice a R.length cap)) := Lib.hid (fun W2 hW2 => sys_cells ((hW2.block w.heap.size (by omega)).trans hbx))
  have HB0 := Lib.hid hb0
  rw [← hw0]
  clear hw0 hb0 hbx hs0
  go_loopw [8, 9, 19] (fun v u i wr => ∃ (j : Nat) (V : WayD), j ≤ W.length ∧ i = .int .i64 (j : Nat) ∧ Ways w0 wr v u V ∧ WayTA R k W j 0 ⟨#[]⟩ 0 V) (fun _ _ i _ => W.length - (intOf i).toNat)
  case atStart => exact ⟨0, [], Nat.zero_le _, rfl, HW0.out, WayTA.start _ _ _ _ _⟩
  case round =>
    clear HW0
    obtain ⟨j, V1, hj, rfl, hwy, hto⟩ := hrel
    obtain ⟨av, cv, au, cu, rfl, rfl⟩ := hwy.form
    have HWY := Lib.hid hwy
    have HTO := Lib.hid hto
    clear hto
    by_cases hlt : j < W.length
    · obtain ⟨b, off, b2, off2, rfl, rfl, c1w, c2w⟩ := HI.out.at hlt
      have c1 : wr.cell? ⟨b, off + j, none⟩ = some (.string (nthW W j).1) := by rw [(Below.now HB0.out hwy.1.2).cell (World.block_lt_of_cell? w _ c1w)]; exact c1w
      have HWJ := Lib.hid (nthW_lt hlt)
      have hesz : (nthW W j).1.size ≤ 8 := by
        have := HWA.out.way.short _ (List.getElem_mem hlt)
        have h2 := HK7.out
        rw [HWJ.out]; omega
      have hcb : (nthW W j).2 ≤ 4611686018427387903 := by
        have h2 := wsum_take_le R k 0 W (j + 1)
        rw [wsum_take _ _ _ _ hlt, ← HWJ.out] at h2
        have h3 : paths R k 0 (nthW W j).1 = 1 := rfl
        rw [h3] at h2
        have h4 := HWA.out.way.eq 0
        have h6 := hT
        unfold topB at h6
        rw [Nat.add_zero] at h4
        omega
      have HEE : Hid (∀ x, x < k → EndP k (nxtX R (nthW W j).1 x)) := Lib.hid (fun x hx => by rw [HWJ.out]; exact (HWA.out.ends _ (List.getElem_mem hlt)).nxt G hx)
      have HCP : Hid (1 ≤ (nthW W j).2) := Lib.hid (by rw [HWJ.out]; exact HWA.out.way.pos _ (List.getElem_mem hlt))
      have HCC : Hid (∀ W2, Below w0.heap.size w0 W2 → W2.cell? ⟨b2, off2 + j, none⟩ = some (.int .i64 ((nthW W j).2 : Int))) := Lib.hid (fun W2 hW2 => by rw [(Below.now HB0.out hW2).cell (World.block_lt_of_cell? w _ c2w)]; exact c2w)
      clear c1w c2w
      have HTJ : Hid (WayTA R k W j 0 (nthW W j).1 (nthW W j).2 V1) := Lib.hid HTO.out.other
      have HLE : Hid (∀ V x, x ≤ k → WayTA R k W j x (nthW W j).1 (nthW W j).2 V → wsum R k 0 V ≤ 4611686018427387903) := Lib.hid (fun V x hx h => by
        rw [HWJ.out] at h
        have h1 := WayTA.le HWA.out hlt hx h
        have h2 := hT1
        unfold topB at h2
        omega)
      have HROW : Hid (∀ V, WayTA R k W j k (nthW W j).1 (nthW W j).2 V → WayTA R k W (j + 1) 0 ⟨#[]⟩ 0 V) := Lib.hid (fun V h => by rw [HWJ.out] at h; exact h.row hlt _ _)
      clear hwy HTO
      generalize hpe : (nthW W j).1 = e at *
      generalize hpc : (nthW W j).2 = c at *
      clear hpe hpc HWJ
      go_wp2_with fail
      generalize hW : wr = wr0 at *
      clear hW c1
      go_loopw [8, 9, 12] (fun v u i wr => ∃ (x : Nat) (V : WayD), x ≤ k ∧ i = .int .i64 (x : Nat) ∧ Ways w0 wr v u V ∧ Hid (WayTA R k W j x e c V)) (fun _ _ i _ => k - (intOf i).toNat)
      case atStart => exact ⟨0, V1, Nat.zero_le _, rfl, HWY.out, HTJ⟩
      case round =>
        clear HWY HTJ
        obtain ⟨x, V, hx, rfl, hwy, HTO⟩ := hrel
        obtain ⟨av, cv, au, cu, rfl, rfl⟩ := hwy.form
        have HWY := Lib.hid hwy
        obtain ⟨s0, s1⟩ := HBX.out wr hwy.1.2
        clear hwy
        by_cases hlx : x < k
        · have s0a : ∀ o, (wr.alloc o).cell? ⟨w.heap.size, 0, none⟩ = some (.int .i64 (k : Nat)) := fun o => by rw [(alloc_belowS wr o).cell (World.block_lt_of_cell? wr _ s0)]; exact s0
          have s1a : ∀ o, (wr.alloc o).cell? ⟨w.heap.size, 1, none⟩ = some (.slice a R.length cap) := fun o => by rw [(alloc_belowS wr o).cell (World.block_lt_of_cell? wr _ s1)]; exact s1
          have hu : IntKind.u8.wrap (97 + (x : Int)) = 97 + (x : Int) := by simp [IntKind.wrap, IntKind.signed, IntKind.bits]; omega
          have hvs : (e ++ oneC (97 + (x : Int))).size ≤ 9 := by
            rw [ByteArray.size_append]
            have : (oneC (97 + (x : Int))).size = 1 := rfl
            omega
          have HEN := Lib.hid (fun W2 h => l07Ends_any (k : Nat) R (e ++ oneC (97 + (x : Int))) a cap W2 h hlen (fun j hj => by have := (HZ.out j hj).1; omega) (by omega))
          have HCU := Lib.hid (fun W2 h => l07Cut_any (k : Nat) R (e ++ oneC (97 + (x : Int))) a cap W2 h hlen HSZ.out (by omega))
          have HOK : Hid (okX R e x = !endsR R (e ++ oneC (97 + (x : Int)))) := Lib.hid rfl
          have HNX : Hid (nxtX R e x = cutR R (e ++ oneC (97 + (x : Int)))) := Lib.hid rfl
          have hos : ∀ z, (oneC z).size = 1 := fun z => rfl
          have hesz1 : ¬ (9223372036854775807 : Int) < (e.size : Int) + 1 := by omega
          have hesz2 : ¬ 9223372036854775807 < e.size + 1 := by omega
          go_wp2_with fail
          clear hu kc hos hesz1 hesz2
          generalize e ++ oneC (97 + (x : Int)) = v at *
          refine (HEN.out _ (HL.out.later (Below.now HB0.out (HWY.out.1.2.alloc HWY.out.1.2.size _)))).mono ?_
          rintro e2 w2 ⟨rfl, hb2⟩
          have HW2 := Lib.hid (HWY.out.later (Below.now (alloc_belowS wr _) hb2))
          obtain ⟨t0, t1⟩ := HBX.out w2 HW2.out.1.2
          clear hb2 HEN s0 s1 s0a s1a HWY
          cases hend : endsR R v
          · have hok : okX R e x = true := by rw [HOK.out, hend]; rfl
            have HOKT := Lib.hid hok
            clear hok hend HOK
            go_wp2_with fail
            refine (HCU.out _ (HL.out.later (Below.now HB0.out HW2.out.1.2))).mono ?_
            rintro e3 w3 ⟨rfl, hb3⟩
            have HW3 := Lib.hid (HW2.out.later hb3)
            have HNX2 := HNX
            clear hb3 HCU t0 t1 HW2 HNX
            generalize cutR R v = nx at *
            have hVl : V.length ≤ 21845 := HTO.out.few hk
            go_wp2_with fail
            go_loop [14] (fun i => ∃ d : Nat, d ≤ V.length ∧ i = .int .i64 (d : Nat) ∧ Hid (∀ d', d' < d → (nthW V d').1 ≠ nx)) (fun i => V.length - (intOf i).toNat)
            case atStart => exact ⟨0, Nat.zero_le _, rfl, Lib.hid (fun d' h => absurd h (Nat.not_lt_zero _))⟩
            case round =>
              obtain ⟨d, hd, rfl, hno⟩ := hrel
              by_cases hdl : d < V.length
              · obtain ⟨g, cg, g2, cg2, hv1, hu1, r1, r2, r3⟩ := HW3.out.read hdl
                simp only [Value.slice.injEq, true_and] at hv1 hu1
                obtain ⟨rfl, rfl⟩ := hv1
                obtain ⟨rfl, rfl⟩ := hu1
                have HND := Lib.hid (nthW_lt hdl)
                have HFIX : Hid ((nthW V d).1 ≠ nx → ∀ d', d' < d + 1 → (nthW V d').1 ≠ nx) := Lib.hid (fun h d' hd' => by
                  by_cases e5 : d' = d
                  · rw [e5]; exact h
                  · exact hno.out d' (by omega))
                have HADD : Hid ((nthW V d).1 = nx → WayTA R k W j (x + 1) e c (addW V d c)) := Lib.hid (fun h => HTO.out.old HOKT.out hdl (by rw [← HND.out, h, HNX2.out]))
                have HWAY : Hid (Ways w0 (w3.setCell ⟨g2, d, none⟩ (.int .i64 (((nthW V d).2 : Int) + (c : Int)))).drew (.slice (some ⟨g, 0, none⟩) V.length cv) (.slice (some ⟨g2, 0, none⟩) V.length cu) (addW V d c)) := Lib.hid (by
                  have h := HW3.out.addU hdl c
                  rw [Int.natCast_add] at h
                  exact h.later ⟨rfl, rfl, rfl, Nat.le_refl _, fun _ _ => rfl⟩)
                have hVD : (nthW V d).2 ≤ 4611686018427387903 := by
                  have h1 := HLE.out V x hx HTO.out
                  have h2 := wsum_take_le R k 0 V (d + 1)
                  rw [wsum_take _ _ _ _ hdl, ← HND.out] at h2
                  have h3 : paths R k 0 (nthW V d).1 = 1 := rfl
                  rw [h3] at h2
                  omega
                generalize hu2 : (nthW V d).1 = u at *
                generalize hc2 : (nthW V d).2 = cd at *
                clear hu2 hc2 HND
                cases hq : (u.toList == nx.toList)
                · have hn2 : (u.toList != nx.toList) = true := by rw [bne, hq]; rfl
                  have F := Lib.hid (HFIX.out (fun h => by rw [bytes_eq2.2 h] at hq; cases hq))
                  go_wp2_with fail
                  go_round
                  case rel => exact ⟨d + 1, by omega, by go_num, F⟩
                  case measure => simp [intOf]; omega
                · have hn2 : (u.toList != nx.toList) = false := by rw [bne, hq]; rfl
                  have F2 := Lib.hid (HADD.out (bytes_eq2.1 hq))
                  have hne := eq_natB (show ¬ d = V.length by omega)
                  have r4 := HCC.out w3 HW3.out.1.2
                  have q1 : (cd : Int) + (c : Int) ≤ 9223372036854775807 := by omega
                  go_wp2_with fail
                  go_region
                  clear r1 r2 r3 r4 q1 hne
                  go_wp2_with fail
                  go_roundw
                  case rel => exact ⟨x + 1, _, by omega, by go_num, HWAY.out, F2⟩
                  case measure => simp [intOf]; omega
              · obtain rfl : d = V.length := by omega
                have hn1 : ((V.length : Int) == (V.length : Int)) = true := by simp
                have HF := Lib.hid (HTO.out.new HOKT.out HCP.out (fun p hp => by
                  obtain ⟨d', hd', rfl⟩ := List.getElem_of_mem hp
                  have := hno.out d' hd'
                  rw [nthW_lt hd'] at this
                  rw [HNX2.out]; exact this) (HEE.out x hlx))
                rw [HNX2.out] at HF
                have HA3 := Lib.hid (alloc_belowS w3 (.cells #[.string nx] 9))
                have HV : Hid (Bld 9 1 w0 (w3.alloc (.cells #[.string nx] 9)) (.slice av V.length cv) V.length (keyV V)) := Lib.hid (by
                  have h := (HW3.out.later HA3.out).1
                  rwa [keyV_len] at h)
                have HN1 : Hid ([Value.string nx].length = 1 * 1) := Lib.hid rfl
                have HN2 : Hid (∀ u ∈ [Value.string nx], u.oneCell' = true) := Lib.hid (fun u hu => by rw [List.mem_singleton.1 hu]; rfl)
                have HM1 : Hid ([Value.int .i64 0].length = 1 * 1) := Lib.hid rfl
                have HM2 : Hid (∀ u ∈ [Value.int .i64 0], u.oneCell' = true) := Lib.hid (fun u hu => by rw [List.mem_singleton.1 hu]; rfl)
                go_wp2_with (at_builtin; refine wpList_appM rfl (.tmp 61) (.tmp 63) rfl Tryz.underlying52 Tryz.infoStr rfl (by decide) rfl HV.out rfl (Src.lit _) HN1.out HN2.out ?a1 ?a2 ?a3)
                case a1 => unfold maxLen; omega
                case a2 => omega
                intro v4 w4 hb4 hg4 ho4
                have HT4 : Hid (TwoB w0 w4 v4 (keyV V ++ [.string nx]) (.slice au V.length cu) (cntV V)) := Lib.hid (TwoB.putV HW3.out (by rw [keyV_len]; exact hb4) hg4 (by simpa using ho4))
                obtain ⟨g4, c4, rfl⟩ := owns_slot hb4.1 (by omega)
                clear hb4 hg4 ho4 HV
                have HA4 := Lib.hid (alloc_belowS w4 (.cells #[.int .i64 0] 3))
                have HU : Hid (Bld 3 1 w0 (w4.alloc (.cells #[.int .i64 0] 3)) (.slice au V.length cu) V.length (cntV V)) := Lib.hid (by
                  have h := (HT4.out.later HA4.out).2.1
                  rwa [cntV_len] at h)
                go_wp2_with (at_builtin; refine wpList_appM rfl (.tmp 65) (.tmp 66) rfl Tryz.underlying23 Tryz.infoInt rfl (by decide) rfl HU.out rfl (Src.lit _) HM1.out HM2.out ?b1 ?b2 ?b3)
                case b1 => unfold maxLen; omega
                case b2 => omega
                intro v5 w5 hb5 hg5 ho5
                have HT5 : Hid (Ways w0 w5 (.slice (some ⟨g4, 0, none⟩) (V.length + 1) c4) v5 (V ++ [(nx, 0)])) := Lib.hid (by
                  have h := TwoB.putU HT4.out (by rw [cntV_len]; exact hb5) hg5 (by simpa using ho5)
                  unfold Ways
                  rw [keyV_app, cntV_app]; exact h)
                obtain ⟨g5, c5, rfl⟩ := owns_slot hb5.1 (by omega)
                clear hb5 hg5 ho5 HU HT4
                obtain ⟨_, _, _, _, hv1, hu1, _, r2, r3⟩ := HT5.out.read (i := V.length) (by simp)
                have e1 : (V ++ [(nx, 0)]).length = V.length + 1 := by simp
                rw [e1] at hv1 hu1
                cases hv1
                cases hu1
                clear e1
                rw [nthW_app] at r2
                have r4 := HCC.out w5 HT5.out.1.2
                have HWAY : Hid (Ways w0 (w5.setCell ⟨g5, V.length, none⟩ (.int .i64 (c : Int))).drew (.slice (some ⟨g4, 0, none⟩) (V.length + 1) c4) (.slice (some ⟨g5, 0, none⟩) (V.length + 1) c5) (V ++ [(nx, c)])) := Lib.hid (by
                  have e1 : (V ++ [(nx, 0)]).length = V.length + 1 := by simp
                  have h0 := HT5.out
                  rw [← e1] at h0
                  have h := h0.addU (i := V.length) (by simp) c
                  rw [nthW_app, addW_last, Nat.zero_add, e1] at h
                  exact h.later ⟨rfl, rfl, rfl, Nat.le_refl _, fun _ _ => rfl⟩)
                go_wp2_with fail
                go_region
                clear r2 r3 r4
                go_wp2_with fail
                go_roundw
                case rel => exact ⟨x + 1, _, by omega, by go_num, HWAY.out, HF⟩
                case measure => simp [intOf]; omega
          · have hok : okX R e x = false := by rw [HOK.out, hend]; rfl
            have F := Lib.hid (HTO.out.no hok)
            clear hok hend HOK
            go_wp2_with fail
            go_roundw
            case rel => exact ⟨x + 1, V, by omega, by go_num, HW2.out, F⟩
            case measure => simp [intOf]; omega
        · obtain rfl : x = k := by omega
          have F := Lib.hid (HROW.out V HTO.out)
          go_wp2_with fail
          go_roundw
          case rel => exact ⟨j + 1, V, by omega, by go_num, HWY.out, F.out⟩
          case measure => simp [intOf]; omega
    · obtain rfl : j = W.length := by omega
      obtain ⟨_, _, _, _, h1, h2, hio, hlo, hlo2⟩ := HWY.out.out
      cases h1
      cases h2
      have F : Hid (RetWaysA R k n w (.returned (.tuple #[.slice av V1.length cv, .slice au V1.length cu])) wr) := Lib.hid ⟨V1, av, cv, au, cu, rfl, HTO.out.done HWA.out, hio, Below.now HB0.out HWY.out.1.2, fun x hx => ⟨Nat.le_trans HB0.out.size (hlo x hx).1, (hlo x hx).2⟩, fun x hx => ⟨Nat.le_trans HB0.out.size (hlo2 x hx).1, (hlo2 x hx).2⟩⟩
      clear hio hwy hlo hlo2
      go_wp2_with fail
      go_ret2
      exact F.out
end Go.Proofs.YtmgdglghjlggnaaGreat
namespace Go.Proofs.YtmgdglghjlggnaaGreat
open Go.RowKit
set_option linter.unusedVariables false
set_option maxRecDepth 20000 in
set_option maxHeartbeats 1000000 in
theorem specLongestReduced_any (k : Int) (R : List RulD) (a : Option Addr) (cap : Nat) (w : World) (hl : RulesIn w a R) (hlen : R.length ≤ 2 ^ 40) (hz : SzR R) :
    Calls Tryz.prog 73 #[.agg #[.int .i64 k, .slice a R.length cap]] w (RetLg k R w) := by
  have HL := Lib.hid hl
  have HS := Lib.hid (fun W h => specSystemOk_any k R a cap W h hlen hz)
  have HA := Lib.hid (fun o => alloc_belowS w o)
  have hbx := alloc_at w (.cells #[.int .i64 k, .slice a R.length cap] 67)
  have HBX : Hid (∀ W2, Below (w.alloc (.cells #[.int .i64 k, .slice a R.length cap] 67)).heap.size (w.alloc (.cells #[.int .i64 k, .slice a R.length cap] 67)) W2 → W2.cell? ⟨w.heap.size, 0, none⟩ = some (.int .i64 k) ∧ W2.cell? ⟨w.heap.size, 1, none⟩ = some (.slice a R.length cap)) := Lib.hid (fun W2 hW2 => sys_cells ((hW2.block w.heap.size (by simp)).trans hbx))
  have HZ := Lib.hid hz
  clear hl hz hbx
  go_enter Tryz.func73, Tryz.ntmps73
  go_wp2_with fail
  refine (HS.out _ (HL.out.later (HA.out _))).mono ?_
  rintro e w1 ⟨bb, hbb, rfl, hb1⟩
  have HBB := Lib.hid hbb
  obtain ⟨s0, s1⟩ := HBX.out w1 hb1
  have HW1 := Lib.hid (Below.now (HA.out _) hb1)
  clear hbb hb1 HS HBX
  cases bb
  · have F : Hid (RetLg k R w (.returned (.int .i64 (-1))) w1) := Lib.hid ⟨-1, .inl ⟨fun h => (by have := HBB.out.2 h; cases this), rfl⟩, rfl, HW1.out⟩
    go_wp2_with fail
    go_ret
    exact F.out
  · have HSP := Lib.hid (HBB.out.1 rfl)
    clear HBB
    obtain ⟨_, h8, hk1, hk4⟩ := sys_sizes HSP.out
    obtain ⟨kn, rfl⟩ := Int.eq_ofNat_of_zero_le (show 0 ≤ k by omega)
    have HD := Lib.hid (fun ad W h1 => l07Depth_any kn R a cap hlen HZ.out (sysG_of HSP.out) (fun j hj => by have := (h8 j hj).1; omega) 21846 [] ⟨#[]⟩ ad 0 W rfl (WayE.start R kn) h1 (.inl rfl))
    clear h8
    go_wp2_with fail
    refine (HD.out _ _ (HL.out.later (HW1.out.alloc HW1.out.size _))).mono ?_
    rintro e w3 ⟨h, hh, rfl, hb3⟩
    have F : Hid (RetLg (kn : Int) R w (.returned (.int .i64 h)) w3) := Lib.hid ⟨h, .inr ⟨HSP.out, by simpa using hh⟩, rfl, Below.now (HW1.out.alloc HW1.out.size _) hb3⟩
    clear hh hb3 HD
    go_wp2_with fail
    go_ret
    exact F.out
set_option maxRecDepth 100000 in
set_option maxHeartbeats 4000000 in
theorem specCountAll_any (k : Int) (R : List RulD) (a : Option Addr) (cap : Nat) (w : World) (hl : RulesIn w a R) (hlen : R.length ≤ 2 ^ 40) (hz : SzR R) :
    Calls Tryz.prog 72 #[.agg #[.int .i64 k, .slice a R.length cap]] w (RetCn k R w) := by
  have HL := Lib.hid hl
  have HS := Lib.hid (fun W h => specLongestReduced_any k R a cap W h hlen hz)
  have HA := Lib.hid (fun o => alloc_belowS w o)
  have hbx := alloc_at w (.cells #[.int .i64 k, .slice a R.length cap] 67)
  have HBX : Hid (∀ W2, Below (w.alloc (.cells #[.int .i64 k, .slice a R.length cap] 67)).heap.size (w.alloc (.cells #[.int .i64 k, .slice a R.length cap] 67)) W2 → W2.cell? ⟨w.heap.size, 0, none⟩ = some (.int .i64 k) ∧ W2.cell? ⟨w.heap.size, 1, none⟩ = some (.slice a R.length cap)) := Lib.hid (fun W2 hW2 => sys_cells ((hW2.block w.heap.size (by simp)).trans hbx))
  clear hl hz hbx
  go_enter Tryz.func72, Tryz.ntmps72
  go_wp2_with fail
  refine (HS.out _ (HL.out.later (HA.out _))).mono ?_
  rintro e w1 ⟨h, hlg, rfl, hb1⟩
  have HLG := Lib.hid hlg
  have HW1 := Lib.hid (Below.now (HA.out _) hb1)
  have HBX1 : Hid (∀ W2, Below w1.heap.size w1 W2 → W2.cell? ⟨w.heap.size, 0, none⟩ = some (.int .i64 k) ∧ W2.cell? ⟨w.heap.size, 1, none⟩ = some (.slice a R.length cap)) := Lib.hid (fun W2 hW2 => HBX.out W2 (Below.now hb1 hW2))
  clear hb1 HS HBX
  by_cases h0 : h < 0
  · have F : Hid (RetCn k R w (.returned (.int .i64 (-1))) w1) := Lib.hid ⟨-1, ⟨h, HLG.out, .inl ⟨h0, rfl⟩⟩, rfl, HW1.out⟩
    clear hlg
    go_wp2_with fail
    go_ret
    exact F.out
  · rcases hlg with ⟨_, h1⟩ | ⟨hsp, hh⟩
    · omega
    · obtain ⟨_, h8, hk1, hk4⟩ := sys_sizes hsp
      obtain ⟨kn, rfl⟩ := Int.eq_ofNat_of_zero_le (show 0 ≤ k by omega)
      obtain ⟨hn, rfl⟩ := Int.eq_ofNat_of_zero_le (show 0 ≤ h by omega)
      have hG := sysG_of hsp
      have hh' : HtIs R kn ⟨#[]⟩ (hn : Int) := by simpa using hh
      have hle := HtIs.le hG (EndP.nil kn) hh'
      have htop := pSum_top hG hh'
      have HT : Hid (∀ i, i ≤ hn → paths R kn i ⟨#[]⟩ ≤ topB) := Lib.hid (fun i hi => Nat.le_trans (pSum_at R kn (show i < hn + 1 by omega)) htop)
      have HPS : Hid (∀ j, j ≤ hn + 1 → pSum R kn j ≤ 4611686018427387903) := Lib.hid (fun j hj => by have h1 := pSum_mono R kn hj; unfold topB at htop; omega)
      have HF : Hid (CntIs (kn : Int) R ((pSum R kn (hn + 1) : Nat) : Int)) := Lib.hid ⟨(hn : Int), HLG.out, .inr ⟨by omega, by simp⟩⟩
      have HGG := Lib.hid hG
      have H8 := Lib.hid h8
      have hkn : kn ≤ 4 := by omega
      clear hsp hh hh' htop hG HLG h8
      have HW0 : Hid (WaysIn ((w1.alloc (.cells #[.string ⟨#[]⟩] 9)).alloc (.cells #[.int .i64 1] 3)) (some ⟨w1.heap.size, 0, none⟩) (some ⟨w1.heap.size + 1, 0, none⟩) [(⟨#[]⟩, 1)]) := Lib.hid (by
        refine ⟨.inr ⟨_, _, rfl, fun i hi => ?_⟩, .inr ⟨_, _, rfl, fun i hi => ?_⟩⟩
        · have : i = 0 := by simp [keyV] at hi; omega
          subst this
          rw [(alloc_belowS (w1.alloc (.cells #[.string ⟨#[]⟩] 9)) _).cell (by simp)]
          simp [World.cell?_alloc_new, keyV]
        · have : i = 0 := by simp [cntV] at hi; omega
          subst this
          have e1 : (w1.alloc (.cells #[.string ⟨#[]⟩] 9)).heap.size = w1.heap.size + 1 := by simp
          rw [← e1]
          simp [cntV])
      have HWB : Hid (Below w1.heap.size w1 ((w1.alloc (.cells #[.string ⟨#[]⟩] 9)).alloc (.cells #[.int .i64 1] 3))) := Lib.hid (((Below.refl _ _).alloc (Nat.le_refl _) _).alloc (by simp) _)
      have HP1 : Hid (pSum R kn (0 + 1) = 1) := Lib.hid rfl
      go_wp2_with fail
      go_loopw [4, 5, 6, 7] (fun ve vc vs vi wr => ∃ (i : Nat) (W : WayD) (ae ac : Option Addr) (ce cc s : Nat), i ≤ hn ∧ vi = .int .i64 (i : Nat) ∧ ve = .slice ae W.length ce ∧ vc = .slice ac W.length cc ∧ vs = .int .i64 (s : Nat) ∧ Hid (s = pSum R kn (i + 1)) ∧ Hid (WayAtA R kn i W) ∧ Hid (WaysIn wr ae ac W) ∧ Hid (Below w1.heap.size w1 wr)) (fun _ _ _ vi _ => hn - (intOf vi).toNat)
      case atStart => exact ⟨0, [(⟨#[]⟩, 1)], _, _, _, _, 1, Nat.zero_le _, rfl, rfl, rfl, rfl, Lib.hid HP1.out.symm, Lib.hid (WayAtA.start _ _), HW0, HWB⟩
      case round =>
        clear HW0 HWB HP1
        obtain ⟨i, W, ae, ac, ce, cc, s, hi, rfl, rfl, rfl, rfl, HSU, HWA, HIN, HBW⟩ := hrel
        by_cases hlt : i < hn
        · obtain ⟨s0, s1⟩ := HBX1.out wr HBW.out
          have HNX := Lib.hid (fun W2 h1 h2 => l07NextA_any kn i R W a ae ac cap ce cc W2 h1 hlen H8.out hkn (HT.out i hi) (HT.out (i + 1) hlt) HGG.out HWA.out h2)
          go_wp2_with fail
          refine (HNX.out _ (HL.out.later (Below.now HW1.out HBW.out)) HIN.out).mono ?_
          rintro e w2 ⟨V, av, cv, au, cu, rfl, hv1, hv2, hv3, hv4, hv5⟩
          have HV1 := Lib.hid hv1
          have HV2 := Lib.hid hv2
          have HB2 := Lib.hid (Below.now HBW.out hv3)
          have HCA := Lib.hid (cntTo_all R kn V)
          have HCE := Lib.hid (hv1.way.eq 0)
          have hps : pSum R kn (i + 1) + paths R kn (i + 1) ⟨#[]⟩ ≤ 4611686018427387903 := by
            have h1 := HPS.out (i + 1 + 1) (by omega)
            rw [pSum_succ] at h1; exact h1
          have HMO : Hid (∀ j, j ≤ V.length → s + cntTo V j ≤ 4611686018427387903) := Lib.hid (fun j hj => by
            have h1 := cntTo_mono V hj
            have h2 := HCA.out
            have h3 := HCE.out
            have h4 := HSU.out
            rw [Nat.add_zero] at h3
            omega)
          have hVl : V.length ≤ 21845 := hv1.few hkn
          clear hv1 hv2 hv3 hv4 hv5 HNX s0 s1 hps
          go_wp2_with fail
          go_loop [6, 30] (fun vs vj => ∃ j c : Nat, j ≤ V.length ∧ vj = .int .i64 (j : Nat) ∧ vs = .int .i64 (c : Nat) ∧ Hid (c = s + cntTo V j)) (fun _ vj => V.length - (intOf vj).toNat)
          case atStart => exact ⟨0, s, Nat.zero_le _, rfl, rfl, Lib.hid rfl⟩
          case round =>
            obtain ⟨j, c, hj, rfl, rfl, hc⟩ := hrel
            have hcb : c ≤ 4611686018427387903 := by have := HMO.out j hj; have := hc.out; omega
            by_cases hlj : j < V.length
            · obtain ⟨_, _, b2, off2, _, rfl, _, r2⟩ := HV2.out.at hlj
              have HCS : Hid (s + cntTo V (j + 1) = c + (nthW V j).2) := Lib.hid (by rw [cntTo_succ hlj, nthW_lt hlj, hc.out]; omega)
              have hcs := HMO.out (j + 1) hlj
              have hcs2 : c + (nthW V j).2 ≤ 4611686018427387903 := by have := HCS.out; omega
              clear hcs
              generalize (nthW V j).2 = d at *
              go_wp2_with fail
              go_round
              case rel => exact ⟨j + 1, c + d, by omega, by go_num, by go_num, Lib.hid HCS.out.symm⟩
              case measure => simp [intOf]; omega
            · obtain rfl : j = V.length := by omega
              have HSUM : Hid (c = pSum R kn (i + 1 + 1)) := Lib.hid (by rw [pSum_succ, hc.out, HCA.out, HCE.out, Nat.add_zero, HSU.out])
              go_wp2_with fail
              go_roundw
              case rel => exact ⟨i + 1, V, av, au, cv, cu, c, by omega, by go_num, rfl, rfl, rfl, HSUM, HV1, HV2, HB2⟩
              case measure => simp [intOf]; omega
        · obtain rfl : i = hn := by omega
          have F : Hid (RetCn (kn : Int) R w (.returned (.int .i64 (s : Nat))) wr) := Lib.hid ⟨_, by rw [HSU.out]; exact HF.out, rfl, Below.now HW1.out HBW.out⟩
          go_wp2_with fail
          go_ret
          exact F.out
end Go.Proofs.YtmgdglghjlggnaaGreat
namespace Go.Proofs.YtmgdglghjlggnaaGreat
open Go.RowKit
set_option linter.unusedVariables false
/-- one letter more -/
def stepW (R : List RulD) (k : Nat) (w : ByteArray) : List ByteArray := (List.range k).flatMap fun x => if okX R w x = true then [w ++ letterN x] else []
/-- all reduced words from w by m letters -/
def wordsF (R : List RulD) (k : Nat) : Nat → ByteArray → List ByteArray
  | 0, w => [w]
  | m + 1, w => (List.range k).flatMap fun x => if okX R w x = true then wordsF R k m (w ++ letterN x) else []
theorem flat_if {α β : Type} (l : List Nat) (p : Nat → Bool) (f : Nat → List α) (g : α → List β) : (l.flatMap fun x => if p x = true then f x else []).flatMap g = l.flatMap fun x => if p x = true then (f x).flatMap g else [] := by
  rw [List.flatMap_assoc]
  congr 1
  funext x
  split <;> rfl
theorem wordsF_step (R : List RulD) (k : Nat) : ∀ (m : Nat) (w : ByteArray), wordsF R k (m + 1) w = (wordsF R k m w).flatMap (stepW R k)
  | 0, w => by
    show _ = ([w] : List ByteArray).flatMap (stepW R k)
    rw [List.flatMap_singleton]
    rfl
  | m + 1, w => by
    have e : wordsF R k (m + 1) w = (List.range k).flatMap fun x => if okX R w x = true then wordsF R k m (w ++ letterN x) else [] := rfl
    rw [e, flat_if]
    show (List.range k).flatMap _ = _
    congr 1
    funext x
    split
    · exact wordsF_step R k m (w ++ letterN x)
    · rfl
theorem len_flat (l : List Nat) (p : Nat → Bool) (f : Nat → List ByteArray) : (l.flatMap fun x => if p x = true then f x else []).length = (l.map fun x => if p x = true then (f x).length else 0).sum := by
  rw [List.length_flatMap]
  congr 1
  apply List.map_congr_left
  intro x _
  split <;> rfl
theorem wordsF_len {R : List RulD} (hne : LeftsP R) (k : Nat) : ∀ (m : Nat) (w : ByteArray), (wordsF R k m w).length = paths R k m w
  | 0, w => rfl
  | m + 1, w => by
    show ((List.range k).flatMap _).length = _
    rw [len_flat, paths_succ]
    unfold pTo
    congr 1
    apply List.map_congr_left
    intro x _
    rw [wordsF_len hne k m (w ++ letterN x), paths_nxt hne]
theorem wordsF_size (R : List RulD) (k : Nat) : ∀ (m : Nat) (w : ByteArray), ∀ u ∈ wordsF R k m w, u.size = w.size + m
  | 0, w, u, hu => by rw [List.mem_singleton.1 hu]; rfl
  | m + 1, w, u, hu => by
    obtain ⟨x, _, h2⟩ := List.mem_flatMap.1 hu
    split at h2
    · have h3 := wordsF_size R k m _ u h2
      rw [ByteArray.size_append, letterN_size] at h3
      omega
    · cases h2
theorem wordsF_pre (R : List RulD) (k : Nat) : ∀ (m : Nat) (w : ByteArray), ∀ u ∈ wordsF R k m w, ∃ t, u.data.toList = w.data.toList ++ t
  | 0, w, u, hu => ⟨[], by rw [List.mem_singleton.1 hu]; simp⟩
  | m + 1, w, u, hu => by
    obtain ⟨x, _, h2⟩ := List.mem_flatMap.1 hu
    split at h2
    · obtain ⟨t, ht⟩ := wordsF_pre R k m _ u h2
      rw [app_lt] at ht
      exact ⟨lt97 x :: t, by rw [ht]; simp⟩
    · cases h2
/-- Go's order of strings -/
def ltB (a b : ByteArray) : Bool := Op.bytesLess a.data.toList b.data.toList
theorem less_app (p s t : Wd) : Op.bytesLess (p ++ s) (p ++ t) = Op.bytesLess s t := by
  induction p with
  | nil => rfl
  | cons a p ih =>
    have h1 : ¬ a < a := UInt8.lt_irrefl a
    simp only [List.cons_append, Op.bytesLess, ih, beq_self_eq_true, Bool.true_and, decide_eq_false h1, Bool.false_or]
theorem less_head {a b : UInt8} (h : a < b) (s t : Wd) : Op.bytesLess (a :: s) (b :: t) = true := by
  simp [Op.bytesLess, h]
theorem lt97_lt {x y : Nat} (h : x < y) (hy : y < 4) : lt97 x < lt97 y := by
  rw [UInt8.lt_iff_toNat_lt]
  unfold lt97
  simp
  omega
/-- the words rise -/
theorem wordsF_rise {R : List RulD} {k : Nat} (hk : k ≤ 4) : ∀ (m : Nat) (w : ByteArray), (wordsF R k m w).Pairwise (fun a b => ltB a b = true)
  | 0, w => List.pairwise_singleton _ _
  | m + 1, w => by
    show ((List.range k).flatMap _).Pairwise _
    rw [List.pairwise_flatMap]
    refine ⟨fun x hx => ?_, ?_⟩
    · split
      · exact wordsF_rise hk m _
      · exact List.Pairwise.nil
    · refine List.pairwise_lt_range.imp_of_mem ?_
      intro x y hx hy hxy a ha b hb
      split at ha
      · split at hb
        · obtain ⟨s, hs⟩ := wordsF_pre R k m _ a ha
          obtain ⟨t, ht⟩ := wordsF_pre R k m _ b hb
          have := List.mem_range.1 hy
          unfold ltB
          rw [hs, ht, app_lt, app_lt, List.append_assoc, List.append_assoc, less_app]
          exact less_head (lt97_lt hxy (by omega)) _ _
        · cases hb
      · cases ha
end Go.Proofs.YtmgdglghjlggnaaGreat
