/-
  The order in which vertices are reached, of the reference.
-/
import Derived.Test.YtklbehapbchnaaaDoorFol08
namespace Go.Proofs.YtklbehapbchnaaaDoor
open Go.RowKit
set_option linter.unusedVariables false
theorem alloc_belT (w : World) (o : Obj) : Below w.heap.size w (w.alloc o) := (Below.refl _ _).alloc (Nat.le_refl _) _
def Ap (v u : Value) : Prop := ∀ k, v.ownBlock = some k → u.ownBlock ≠ some k
theorem Ap.symm {v u : Value} (h : Ap v u) : Ap u v := fun k hk e => h k e hk
def Tri (w wr : World) (v u z : Value) (n m l : Nat) (xs ys zs : List Value) : Prop := Bld 3 1 w wr v n xs ∧ Bld 3 1 w wr u m ys ∧ Bld 3 1 w wr z l zs ∧ Ap v u ∧ Ap v z ∧ Ap u z
theorem Tri.rot {w wr : World} {v u z : Value} {n m l : Nat} {xs ys zs : List Value} (h : Tri w wr v u z n m l xs ys zs) : Tri w wr u z v m l n ys zs xs := ⟨h.2.1, h.2.2.1, h.1, h.2.2.2.2.2, h.2.2.2.1.symm, h.2.2.2.2.1.symm⟩
theorem Tri.later {w wr wr' : World} {v u z : Value} {n m l : Nat} {xs ys zs : List Value} (h : Tri w wr v u z n m l xs ys zs) (hb : Below wr.heap.size wr wr') : Tri w wr' v u z n m l xs ys zs := ⟨h.1.later hb, h.2.1.later hb, h.2.2.1.later hb, h.2.2.2⟩
theorem Tri.put {w wr w' : World} {v v' u z : Value} {n m l : Nat} {xs ys zs : List Value} {y : Value} {T : TypeId} (h : Tri w wr v u z n m l xs ys zs) (hb : Bld 3 1 w w' v' (n + 1) (xs ++ [y])) (hg : (wr.alloc (.cells #[y] T)).grownBy w' v.ownBlock)
    (ho : v'.ownBlock = v.ownBlock ∨ v'.ownBlock = some (wr.alloc (.cells #[y] T)).heap.size) : Tri w w' v' u z (n + 1) m l (xs ++ [y]) ys zs := by
  have hal : Below wr.heap.size wr (wr.alloc (.cells #[y] T)) := (Below.refl _ _).alloc (Nat.le_refl _) _
  have far : ∀ {x : Value} {k : Nat} {xx : List Value}, Bld 3 1 w wr x k xx → Ap v x → Ap v' x := fun {x k xx} hx ha q hq e => by
    rcases ho with h1 | h1
    · exact ha q (h1 ▸ hq) e
    · rw [h1] at hq
      have h2 := Option.some.inj hq
      have h3 := (hx.1.lt q e).2
      simp at h2; omega
  exact ⟨hb, keptB (h.2.1.later hal) hg (fun k hk e => h.2.2.2.1 k e hk) (fun k hk => (h.1.1.lt k hk).1), keptB (h.2.2.1.later hal) hg (fun k hk e => h.2.2.2.2.1 k e hk) (fun k hk => (h.1.1.lt k hk).1), far h.2.1 h.2.2.2.1, far h.2.2.1 h.2.2.2.2.1, h.2.2.2.2.2⟩
theorem bld_lit1 (w : World) (x : Value) : Bld 3 1 w (w.alloc (.cells #[x] 3)) (.slice (some ⟨w.heap.size, 0, none⟩) 1 1) 1 [x] :=
  ⟨World.ownsRow_lit w #[x] 1 (Nat.le_refl _) (by unfold maxLen; omega) (by simp), (Below.refl _ _).alloc (Nat.le_refl _) _⟩
theorem Tri.start (w : World) (x y z : Value) : Tri w (((w.alloc (.cells #[x] 3)).alloc (.cells #[y] 3)).alloc (.cells #[z] 3)) (.slice (some ⟨w.heap.size, 0, none⟩) 1 1) (.slice (some ⟨w.heap.size + 1, 0, none⟩) 1 1) (.slice (some ⟨w.heap.size + 1 + 1, 0, none⟩) 1 1) 1 1 1 [x] [y] [z] := by
  have h1 := bld_lit1 w x
  have h2 := bld_lit1 (w.alloc (.cells #[x] 3)) y
  have h3 := bld_lit1 ((w.alloc (.cells #[x] 3)).alloc (.cells #[y] 3)) z
  have b1 : Below w.heap.size w (w.alloc (.cells #[x] 3)) := (Below.refl _ _).alloc (Nat.le_refl _) _
  have k2 : Bld 3 1 (w.alloc (.cells #[x] 3)) ((w.alloc (.cells #[x] 3)).alloc (.cells #[y] 3)) (.slice (some ⟨w.heap.size + 1, 0, none⟩) 1 1) 1 [y] := by simpa using h2
  have k3 : Bld 3 1 ((w.alloc (.cells #[x] 3)).alloc (.cells #[y] 3)) (((w.alloc (.cells #[x] 3)).alloc (.cells #[y] 3)).alloc (.cells #[z] 3)) (.slice (some ⟨w.heap.size + 1 + 1, 0, none⟩) 1 1) 1 [z] := by simpa using h3
  refine ⟨(h1.later h2.2).later h3.2, (k2.since b1).later h3.2, k3.since (Below.now b1 h2.2), ?_, ?_, ?_⟩
  · intro k hk e; simp [Value.ownBlock] at hk e; omega
  · intro k hk e; simp [Value.ownBlock] at hk e; omega
  · intro k hk e; simp [Value.ownBlock] at hk e; omega
/-- numbers of vertices as values -/
def ordV (l : List Nat) : List Value := (l.map Int.ofNat).map (Value.int .i64)
theorem ordV_app (l : List Nat) (u : Nat) : ordV (l ++ [u]) = ordV l ++ [.int .i64 ((u : Nat) : Int)] := by
  unfold ordV; rw [List.map_append, List.map_append]; rfl
theorem ord_ints {w wr : World} {g c : Nat} {l : List Nat} (h : Bld 3 1 w wr (.slice (some ⟨g, 0, none⟩) l.length c) l.length (ordV l)) : IntsIn wr (some ⟨g, 0, none⟩) (l.map Int.ofNat) := owns_ints h.1
theorem ord_cell {w wr : World} {g c : Nat} {l : List Nat} (h : Bld 3 1 w wr (.slice (some ⟨g, 0, none⟩) l.length c) l.length (ordV l)) {j : Nat} (hj : j < l.length) : wr.cell? ⟨g, j, none⟩ = some (.int .i64 ((l.getD j 0 : Nat) : Int)) := by
  obtain ⟨b, off, e, hc⟩ := nat_cell (ord_ints h) hj
  simp only [Option.some.injEq, Addr.mk.injEq, and_true] at e
  obtain ⟨rfl, rfl⟩ := e
  have := hc j hj
  rwa [Nat.zero_add] at this
end Go.Proofs.YtklbehapbchnaaaDoor
namespace Go.Proofs.YtklbehapbchnaaaDoor
open Go.RowKit
set_option linter.unusedVariables false
def RetOrd (g : Nat) (L : List Arc3) (w : World) (e : Ending) (w' : World) : Prop := ∃ v u z ord k, e = .returned (.tuple #[v, u, z]) ∧ Bld 3 1 w w' v ord.length (ordV ord) ∧ Bfs g L ord k 0 ∧ ¬ k < ord.length
set_option maxRecDepth 20000 in
set_option maxHeartbeats 4000000 in
theorem l25Order_any (g : Nat) (L : List Arc3) (av : Option Addr) (cap n : Nat) (w : World) (hL : ArcsIn w av L) (hl : L.length ≤ 200) (hg1 : 1 ≤ g) (hg2 : g ≤ 2) (hn1 : 1 ≤ n) (hn : n ≤ 1000) (hB : ∀ a ∈ L, a.1 < n ∧ a.2.1 < n) :
    Calls Tryd.prog 43 #[.int .i64 (g : Nat), .slice av L.length cap] w (RetOrd g L w) := by
  have HL := Lib.hid hL
  have HLN : Hid (∀ ord k x, Bfs g L ord k x → 1 ≤ ord.length ∧ ord.length ≤ n) := Lib.hid (fun ord k x h => ord_len h hn1 hB)
  have HNXT := Lib.hid (fun V l bk W (h : ArcsIn W av L) => l25Next_any L av cap V l bk W h hl)
  have HT0 := Lib.hid (Tri.start w (.int .i64 0) (.int .i64 (-1)) (.int .i64 (-1)))
  have HB0 : Hid (Bfs g L [0] 0 0) := Lib.hid (Bfs.start g L)
  clear hL hB
  go_enter Tryd.func43, Tryd.ntmps43
  go_wp2_with fail
  go_loopw [7, 8, 9, 10] (fun v7 v8 v9 v10 wr => ∃ (k : Nat) (ord : List Nat) (ys zs : List Value), k ≤ ord.length ∧ v10 = .int .i64 (k : Nat) ∧ Hid (Bfs g L ord k 0) ∧ Hid (Tri w wr v7 v8 v9 ord.length ord.length ord.length (ordV ord) ys zs)) (fun _ _ _ v10 _ => n + 1 - (intOf v10).toNat)
  case atStart => exact ⟨0, [0], _, _, Nat.zero_le _, rfl, HB0, HT0⟩
  case round =>
    clear HT0 HB0
    obtain ⟨k, ord, ys, zs, hk, rfl, HBF, HT⟩ := hrel
    obtain ⟨hl1, hl2⟩ := HLN.out _ _ _ HBF.out
    obtain ⟨g7, c7, rfl⟩ := owns_slot HT.out.1.1 hl1
    by_cases hkl : k < ord.length
    · have hkn : k < n := by omega
      go_wp2_with fail
      generalize hW : wr = wr0 at *
      clear hW
      go_loopw [7, 8, 9, 11] (fun v7 v8 v9 v11 wr => ∃ (x : Nat) (ord : List Nat) (ys zs : List Value), x ≤ 2 * g ∧ k < ord.length ∧ v11 = .int .i64 (x : Nat) ∧ Hid (Bfs g L ord k x) ∧ Hid (Tri w wr v7 v8 v9 ord.length ord.length ord.length (ordV ord) ys zs)) (fun _ _ _ v11 _ => 2 * g - (intOf v11).toNat)
      case atStart => exact ⟨0, ord, ys, zs, Nat.zero_le _, hkl, rfl, HBF, HT⟩
      case round =>
        clear HBF HT hl1 hl2 hkl
        obtain ⟨x, ord, ys, zs, hx, hkl, rfl, HBF, HT⟩ := hrel
        obtain ⟨hl1, hl2⟩ := HLN.out _ _ _ HBF.out
        obtain ⟨g7, c7, rfl⟩ := owns_slot HT.out.1.1 hl1
        obtain ⟨g8, c8, rfl⟩ := owns_slot HT.out.2.1.1 hl1
        obtain ⟨g9, c9, rfl⟩ := owns_slot HT.out.2.2.1.1 hl1
        by_cases hxg : x < 2 * g
        · have hxi : (x : Int) < 2 * (g : Int) := by omega
          have hkc := ord_cell HT.out.1 hkl
          have hki : (k : Int) < (ord.length : Int) := by omega
          have HST := Lib.hid (HBF.out.step hkl hxg)
          have hgz : ¬ (g : Int) = 0 := by omega
          have hgz2 : ¬ g = 0 := by omega
          have HKC : Hid (∀ W, Below wr.heap.size wr W → W.cell? ⟨g7, k, none⟩ = some (.int .i64 ((ord.getD k 0 : Nat) : Int))) := Lib.hid (fun W hW => ord_cell (HT.out.later hW).1 hkl)
          have HO := Lib.hid (nxtV_eq g L (ord.getD k 0) x)
          have htm : ((x : Int).tmod (g : Int)) = ((x % g : Nat) : Int) := by rw [Int.ofNat_tmod]
          have hwl : IntKind.i64.wrap ((x % g : Nat) : Int) = ((x % g : Nat) : Int) := IntWalk.i64_in _ ⟨by omega, by have := Nat.mod_lt x (show 0 < g by omega); omega⟩
          have HNX : Hid (∀ W, Below wr.heap.size wr W → Calls Tryd.prog 64 #[.slice av L.length cap, .int .i64 ((ord.getD k 0 : Nat) : Int), .int .i64 ((x % g : Nat) : Int), .bool (decide (g ≤ x))] W fun e w' => e = .returned (.int .i64 (optZ (nxA g L (ord.getD k 0) x))) ∧ Below W.heap.size W w') := Lib.hid (fun W hW => by
            rw [← HO.out]; exact HNXT.out _ _ _ W ((RowsIn.later HL.out HT.out.1.2).later hW))
          clear HO
          generalize ord.getD k 0 = V at *
          generalize nxA g L V x = o at *
          generalize x % g = l at *
          go_wp2_with fail
          have kr := Below.refl wr.heap.size wr
          have HIX : Hid (∀ u W, IntsIn W (some ⟨g7, 0, none⟩) (ord.map Int.ofNat) → Calls Tryd.prog 44 #[.slice (some ⟨g7, 0, none⟩) ord.length c7, .int .i64 (u : Nat)] W fun e w' => e = .returned (.int .i64 (idxZ ord u)) ∧ W = w') := Lib.hid (fun u W h => l25Index_any ord _ c7 u W h (by omega))
          cases o with
          | none =>
            have e1 : optZ none = -1 := rfl
            have HPS : Hid (Bfs g L ord k (x + 1)) := HST
            rw [e1] at HNX
            clear HST HIX e1
            by_cases hgx : g ≤ x
            all_goals
              first
              | (have hgb : decide (g ≤ x) = true := decide_eq_true hgx)
              | (have hgb : decide (g ≤ x) = false := decide_eq_false hgx)
              rw [hgb] at HNX
              go_region_held3 (fun w' => w'.cell? ⟨g7, k, none⟩ = some (.int .i64 ((V : Nat) : Int))) (go_keep) (first
                | (go_at_call 64; refine (HNX.out _ (by repeat (first | exact kr | refine Below.drew ?_ | refine below_drewN ?_ _))).mono ?_; rintro e w3 ⟨rfl, hb3⟩; have k3 := Below.now (show Below wr.heap.size wr _ by repeat (first | exact kr | refine Below.drew ?_ | refine below_drewN ?_ _)) hb3; have HT3 := Lib.hid (HT.out.later k3); have t0 := HKC.out w3 k3; clear hb3 k3))
              all_goals
                go_wp2_with fail
                go_roundw
                case rel => exact ⟨x + 1, ord, ys, zs, by omega, hkl, by go_num, HPS, HT3⟩
                case measure => simp [intOf]; omega
          | some u =>
            have e1 : optZ (some u) = ((u : Nat) : Int) := rfl
            rw [e1] at HNX
            clear e1
            by_cases hu : u ∈ ord
            · have HPS : Hid (Bfs g L ord k (x + 1)) := Lib.hid (by have h := HST.out; rw [pushO_some, if_pos hu] at h; exact h)
              obtain ⟨iu, hiu⟩ : ∃ i : Nat, idxZ ord u = ((i : Nat) : Int) := ⟨ord.idxOf u, by unfold idxZ; rw [if_pos hu]⟩
              have HIU := Lib.hid (HIX.out u)
              rw [hiu] at HIU
              have hin : ¬ ((iu : Nat) : Int) < 0 := by omega
              clear HST HIX hiu hu
              by_cases hgx : g ≤ x
              all_goals
                first
                | (have hgb : decide (g ≤ x) = true := decide_eq_true hgx)
                | (have hgb : decide (g ≤ x) = false := decide_eq_false hgx)
                rw [hgb] at HNX
                go_region_held3 (fun w' => w'.cell? ⟨g7, k, none⟩ = some (.int .i64 ((V : Nat) : Int))) (go_keep) (first
                  | (go_at_call 64; refine (HNX.out _ (by repeat (first | exact kr | refine Below.drew ?_ | refine below_drewN ?_ _))).mono ?_; rintro e w3 ⟨rfl, hb3⟩; have k3 := Below.now (show Below wr.heap.size wr _ by repeat (first | exact kr | refine Below.drew ?_ | refine below_drewN ?_ _)) hb3; have HT3 := Lib.hid (HT.out.later k3); have t0 := HKC.out w3 k3; clear hb3 k3))
                all_goals
                  go_wp2_with (go_at_call 44; refine (HIU.out _ (ord_ints HT3.out.1)).mono ?_; rintro e w' ⟨rfl, rfl⟩)
                  go_roundw
                  case rel => exact ⟨x + 1, ord, ys, zs, by omega, hkl, by go_num, HPS, HT3⟩
                  case measure => simp [intOf]; omega
            · have HPS : Hid (Bfs g L (ord ++ [u]) k (x + 1)) := Lib.hid (by have h := HST.out; rw [pushO_some, if_neg hu] at h; exact h)
              have hiu : idxZ ord u = -1 := by unfold idxZ; rw [if_neg hu]
              have HIU := Lib.hid (HIX.out u)
              rw [hiu] at HIU
              have hln : (ord ++ [u]).length = ord.length + 1 := by simp
              obtain ⟨_, hln2⟩ := HLN.out _ _ _ HPS.out
              rw [hln] at hln2
              have HLE := Lib.hid hln
              have HA : Hid (∀ y : Nat, [Value.int .i64 ((y : Nat) : Int)].length = 1 * 1) := Lib.hid (fun _ => rfl)
              have HA1 : Hid (∀ y : Nat, ∀ q ∈ [Value.int .i64 ((y : Nat) : Int)], q.oneCell' = true) := Lib.hid (fun y q hq => by rw [List.mem_singleton.1 hq]; rfl)
              have HA2 : Hid (ord.length + 1 ≤ maxLen) := Lib.hid (by unfold maxLen; omega)
              have HA3 : Hid ((ord.length + 1) * 8 ≤ 140737488355328) := Lib.hid (by omega)
              clear HST HIX hiu hu hln
              by_cases hgx : g ≤ x
              all_goals
                first
                | (have hgb : decide (g ≤ x) = true := decide_eq_true hgx)
                | (have hgb : decide (g ≤ x) = false := decide_eq_false hgx)
                rw [hgb] at HNX
                go_region_held3 (fun w' => w'.cell? ⟨g7, k, none⟩ = some (.int .i64 ((V : Nat) : Int))) (go_keep) (first
                  | (go_at_call 64; refine (HNX.out _ (by repeat (first | exact kr | refine Below.drew ?_ | refine below_drewN ?_ _))).mono ?_; rintro e w3 ⟨rfl, hb3⟩; have k3 := Below.now (show Below wr.heap.size wr _ by repeat (first | exact kr | refine Below.drew ?_ | refine below_drewN ?_ _)) hb3; have HT3 := Lib.hid (HT.out.later k3); have t0 := HKC.out w3 k3; clear hb3 k3))
                all_goals
                  have HV := Lib.hid ((HT3.out.later (alloc_belT w3 (.cells #[.int .i64 ((u : Nat) : Int)] 3))).1)
                  go_wp2_with (first | (go_at_call 44; refine (HIU.out _ (ord_ints HT3.out.1)).mono ?_; rintro e w' ⟨rfl, rfl⟩) | (at_builtin; (refine wpList_appM rfl (.tmp 48) (.tmp 50) rfl Tryd.underlying63 Tryd.infoInt rfl (by decide) rfl HV.out rfl (Src.lit _) (HA.out u) (HA1.out u) HA2.out HA3.out ?_)))
                  intro v4 w4 hb4 hg4 ho4
                  have HT4 := Lib.hid (Tri.put HT3.out hb4 hg4 (by simpa using ho4))
                  obtain ⟨g4, c4, rfl⟩ := owns_slot hb4.1 (by omega)
                  clear hb4 hg4 ho4 HV
                  have HV := Lib.hid ((HT4.out.later (alloc_belT w4 (.cells #[.int .i64 ((k : Nat) : Int)] 3))).2.1)
                  go_wp2_with (at_builtin; refine wpList_appM rfl (.tmp 52) (.tmp 54) rfl Tryd.underlying63 Tryd.infoInt rfl (by decide) rfl HV.out rfl (Src.lit _) (HA.out k) (HA1.out k) HA2.out HA3.out ?_)
                  intro v5 w5 hb5 hg5 ho5
                  have HT5 := Lib.hid (Tri.put HT4.out.rot hb5 hg5 (by simpa using ho5))
                  obtain ⟨g5, c5, rfl⟩ := owns_slot hb5.1 (by omega)
                  clear hb5 hg5 ho5 HV
                  have HV := Lib.hid ((HT5.out.later (alloc_belT w5 (.cells #[.int .i64 ((x : Nat) : Int)] 3))).2.1)
                  go_wp2_with (at_builtin; refine wpList_appM rfl (.tmp 56) (.tmp 58) rfl Tryd.underlying63 Tryd.infoInt rfl (by decide) rfl HV.out rfl (Src.lit _) (HA.out x) (HA1.out x) HA2.out HA3.out ?_)
                  intro v6 w6 hb6 hg6 ho6
                  have HT6 := (Tri.put HT5.out.rot hb6 hg6 (by simpa using ho6)).rot
                  obtain ⟨g6, c6, rfl⟩ := owns_slot hb6.1 (by omega)
                  have HT7 : Hid (∃ ys' zs', Tri w w6 (.slice (some ⟨g4, 0, none⟩) (ord.length + 1) c4) (.slice (some ⟨g5, 0, none⟩) (ord.length + 1) c5) (.slice (some ⟨g6, 0, none⟩) (ord.length + 1) c6) (ord ++ [u]).length (ord ++ [u]).length (ord ++ [u]).length (ordV (ord ++ [u])) ys' zs') := Lib.hid ⟨_, _, by rw [ordV_app, HLE.out]; exact HT6⟩
                  clear hb6 hg6 ho6 HT6
                  go_wp2_with fail
                  go_roundw
                  case rel =>
                    obtain ⟨ys', zs', hT7⟩ := HT7.out
                    exact ⟨x + 1, ord ++ [u], ys', zs', by omega, by simp; omega, by go_num, HPS, Lib.hid hT7⟩
                  case measure => simp [intOf]; omega
        · have HBF2 : Hid (Bfs g L ord (k + 1) 0) := Lib.hid (HBF.out.row hkl hxg)
          have hxi : ¬ (x : Int) < 2 * (g : Int) := by omega
          go_wp2_with fail
          go_roundw
          case rel => exact ⟨k + 1, ord, ys, zs, hkl, by go_num, HBF2, HT⟩
          case measure => simp [intOf]; omega
    · have F : Hid (∀ u z, RetOrd g L w (.returned (.tuple #[.slice (some ⟨g7, 0, none⟩) ord.length c7, u, z])) wr) := Lib.hid (fun u z => ⟨_, u, z, ord, k, rfl, HT.out.1, HBF.out, hkl⟩)
      obtain ⟨g8, c8, rfl⟩ := owns_slot HT.out.2.1.1 hl1
      obtain ⟨g9, c9, rfl⟩ := owns_slot HT.out.2.2.1.1 hl1
      go_wp2_with fail
      refine bodyPost_ret (v := .tuple #[.slice (some ⟨g7, 0, none⟩) ord.length c7, .slice (some ⟨g8, 0, none⟩) ord.length c8, .slice (some ⟨g9, 0, none⟩) ord.length c9]) ?_ rfl (F.out _ _)
      simp [results, Tryd.results43, go_sem]
end Go.Proofs.YtklbehapbchnaaaDoor
