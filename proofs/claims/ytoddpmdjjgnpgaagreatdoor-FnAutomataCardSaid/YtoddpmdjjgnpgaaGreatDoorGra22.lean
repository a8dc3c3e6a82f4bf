/-
  ReducedAutomaton of the reference at a small system, coarsely: a valid automaton of few states. Printed by spr.py.
-/
import Derived.Test.YtoddpmdjjgnpgaaGreatDoorGra12
import Derived.Test.YtoddpmdjjgnpgaaGreatDoorGra20
import Derived.Test.YtoddpmdjjgnpgaaGreatDoorGra21
import Derived.Test.YtoddpmdjjgnpgaaGreatDoorGra07
import Derived.Test.YtoddpmdjjgnpgaaGreatDoorGra18
namespace Go.Proofs.YtoddpmdjjgnpgaaGreatDoor
open Go.RowKit
set_option linter.unusedVariables false
theorem l13LetterR_any (x : Nat) (w : World) (hx : x < 26) : Calls Tryz.prog 114 #[.int .i64 (x : Nat)] w fun e w' => e = .returned (.string (letterN x)) ∧ Below w.heap.size w w' := by
  have kc := convC
  have hu : IntKind.u8.wrap (97 + (x : Int)) = 97 + (x : Int) := by simp [IntKind.wrap, IntKind.signed, IntKind.bits]; omega
  have HL : Hid (oneC (97 + (x : Int)) = letterN x) := Lib.hid rfl
  go_enter Tryz.func114, Tryz.ntmps114
  go_wp2_with fail
  go_ret
  exact ⟨rfl, (Below.refl _ _).alloc (Nat.le_refl _) _⟩
theorem idxB_two (L : List ByteArray) (v : ByteArray) : (∃ p : Nat, p < L.length ∧ idxB L v = (p : Int)) ∨ (v ∉ L ∧ idxB L v = -1) := by
  by_cases h : v ∈ L
  · obtain ⟨p, h1, h2, _⟩ := idxB_mem h
    exact .inl ⟨p, h1, h2⟩
  · have key : ∀ j, j ≤ L.length → idxTo L v j = none := fun j => by
      induction j with
      | zero => intro _; exact idxTo_zero _ _
      | succ j ih =>
        intro hj
        refine idxTo_succ (ih (by omega)) ?_
        rw [Bool.eq_false_iff]
        intro e
        have e2 := bytes_eq2.1 e
        refine h (e2 ▸ ?_)
        unfold nthS
        rw [List.getD_eq_getElem?_getD, List.getElem?_eq_getElem (by omega)]
        exact List.getElem_mem _
    exact .inr ⟨h, idxB_none (key _ (Nat.le_refl _)) (by omega) (Nat.le_refl _)⟩
/-- an end of at most three letters -/
def EndQ (k : Nat) (e : ByteArray) : Prop := e.size ≤ 3 ∧ ∀ y ∈ e.data.toList, ∃ x, x < k ∧ y = lt97 x
theorem keep3 {R : List RulD} (h : ∀ r ∈ R, r.1.size ≤ 4) : keepR R ≤ 3 := by
  have key : ∀ j, j ≤ R.length → lsTo R j ≤ 4 := fun j => by
    induction j with
    | zero => intro _; exact Nat.zero_le _
    | succ j ih =>
      intro hj
      have h1 := ih (by omega)
      have h2 := h (nthR R j) (nthR_mem (by omega))
      show max _ _ ≤ _
      omega
  have h1 := key R.length (Nat.le_refl _)
  unfold keepR lsL
  omega
theorem EndQ.nxt {R : List RulD} {k : Nat} (hr : keepR R ≤ 3) {e : ByteArray} (h : EndQ k e) {x : Nat} (hx : x < k) : EndQ k (cutR R (e ++ letterN x)) := by
  refine ⟨Nat.le_trans (cutR_size _ _) hr, fun y hy => ?_⟩
  have h1 := (cut_suf R (e ++ letterN x)).subset hy
  rw [app_lt] at h1
  rcases List.mem_append.1 h1 with h1 | h1
  · exact h.2 y h1
  · exact ⟨x, hx, by simpa using h1⟩
theorem endq_few {k : Nat} (h1 : 1 ≤ k) (hk : k ≤ 3) {l : List ByteArray} (hn : l.Nodup) (h : ∀ e ∈ l, EndQ k e) : l.length ≤ 40 := by
  have h1 := nodup_len (l := l.map fun e => e.data.toList) (m := allUp k 3) (by
    unfold List.Nodup at *
    rw [List.pairwise_map]
    exact hn.imp fun hab e => hab (ba_ext0 e)) (fun v hv => by
    obtain ⟨e, he, rfl⟩ := List.mem_map.1 hv
    exact allUp_has (h e he).1 (h e he).2)
  have h2 : (allUp k 3).length ≤ 40 := by
    match k, h1, hk with
    | 1, _, _ => decide
    | 2, _, _ => decide
    | 3, _, _ => decide
  rw [List.length_map] at h1
  omega
structure CoA (k : Nat) (S : List ByteArray) (nx : List Int) (i x : Nat) : Prop where
  nlen : nx.length = i * k + x
  vals : ∀ v ∈ nx, -1 ≤ v ∧ v < (S.length : Int)
  nd : S.Nodup
  ends : ∀ e ∈ S, EndQ k e
section
variable {k : Nat} {S : List ByteArray} {nx : List Int} {i x : Nat}
theorem CoA.start (k : Nat) : CoA k [⟨#[]⟩] [] 0 0 := ⟨by simp, fun v hv => (by cases hv), by simp, fun e he => (by rw [List.mem_singleton.1 he]; exact ⟨Nat.zero_le _, fun y hy => (by cases hy)⟩)⟩
theorem CoA.put (h : CoA k S nx i x) {v : Int} (h1 : -1 ≤ v) (h2 : v < (S.length : Int)) : CoA k S (nx ++ [v]) i (x + 1) := by
  refine ⟨by rw [List.length_append, h.nlen]; simp; omega, fun u hu => ?_, h.nd, h.ends⟩
  rcases List.mem_append.1 hu with hu | hu
  · exact h.vals u hu
  · rw [List.mem_singleton.1 hu]; exact ⟨h1, h2⟩
theorem CoA.new (h : CoA k S nx i x) {t : ByteArray} (ht : t ∉ S) (he : EndQ k t) : CoA k (S ++ [t]) nx i x := by
  refine ⟨h.nlen, fun u hu => ?_, ?_, fun e hm => ?_⟩
  · have := h.vals u hu
    rw [List.length_append]; simp; omega
  · rw [List.nodup_append]
    refine ⟨h.nd, by simp, fun a ha b hb e => ?_⟩
    rw [List.mem_singleton.1 hb] at e
    exact ht (e ▸ ha)
  · rcases List.mem_append.1 hm with hm | hm
    · exact h.ends e hm
    · rw [List.mem_singleton.1 hm]; exact he
theorem CoA.row (h : CoA k S nx i k) : CoA k S nx (i + 1) 0 := ⟨by rw [h.nlen, Nat.add_mul]; omega, h.vals, h.nd, h.ends⟩
theorem CoA.small (h : CoA k S nx i x) (hk : k ≤ 3) (hx : x ≤ k) (hi : i ≤ 40) : nx.length ≤ 123 := by
  have h1 := h.nlen
  have h2 : i * k ≤ 40 * 3 := Nat.mul_le_mul hi hk
  omega
theorem CoA.ok (h : CoA k S nx S.length 0) (h1 : 1 ≤ k) (hk : k ≤ 3) (h0 : 0 < S.length) {fin : List Bool} (hf : fin.length = S.length) : AutP k nx fin := by
  have h2 := endq_few h1 hk h.nd h.ends
  exact ⟨⟨⟨h1, by omega⟩, by omega, by omega⟩, by rw [h.nlen, hf]; rfl, fun v hv => by rw [hf]; exact h.vals v hv⟩
end
/-- the record first, then a row of one element -/
theorem AutS.start2 (w : World) (cs : Array Value) (T : TypeId) (size : Nat) (hs : cs.size = 1 * size) (k : Int) :
    AutS w ((w.alloc (.cells #[.int .i64 k, .slice none 0 0, .slice none 0 0] 30)).alloc (.cells cs T)) w.heap.size k (.slice none 0 0) (.slice none 0 0) [] [] T size (.slice (some ⟨w.heap.size + 1, 0, none⟩) 1 1) 1 cs.toList := by
  have ha := AutB.start (Below.refl w.heap.size w) k
  have hsz : (w.alloc (.cells #[.int .i64 k, .slice none 0 0, .slice none 0 0] 30)).heap.size = w.heap.size + 1 := by simp
  have hr : World.ownsRow ((w.alloc (.cells #[.int .i64 k, .slice none 0 0, .slice none 0 0] 30)).alloc (.cells cs T)) (w.alloc (.cells #[.int .i64 k, .slice none 0 0, .slice none 0 0] 30)).heap.size T size (.slice (some ⟨(w.alloc (.cells #[.int .i64 k, .slice none 0 0, .slice none 0 0] 30)).heap.size, 0, none⟩) 1 1) 1 cs.toList := World.ownsRow_lit (w.alloc (.cells #[.int .i64 k, .slice none 0 0, .slice none 0 0] 30)) cs 1 (Nat.le_refl _) (by unfold maxLen; omega) hs
  rw [hsz] at hr
  refine ⟨ha.later (alloc_belowS _ _), owns_mono hr (by omega), ?_, fun b _ e => (by cases e), fun b _ e => (by cases e)⟩
  simp [Value.ownBlock]
/-- what the reference's ReducedAutomaton hands back -/
def RetRS (k : Nat) (w : World) (e : Ending) (w' : World) : Prop :=
  ∃ (aN : Option Addr) (nx : List Int) (cN : Nat) (aF : Option Addr) (fin : List Bool) (cF : Nat), e = .returned (.tuple #[.agg #[.int .i64 (k : Nat), .slice aN nx.length cN, .slice aF fin.length cF], .bool true]) ∧ (AutP k nx fin ∧ fin.length ≤ 40) ∧ OwnA w' w.heap.size aN nx cN aF fin cF ∧ Below w.heap.size w w'
set_option maxRecDepth 20000 in
set_option maxHeartbeats 8000000 in
theorem specRed_c (k : Nat) (R : List RulD) (a : Option Addr) (cap : Nat) (w : World) (hl : RulesIn w a R) (hs : sysP (k : Int) R) (hm : Sml (k : Nat) R) :
    Calls Tryz.prog 98 #[.agg #[.int .i64 (k : Nat), .slice a R.length cap]] w (RetRS k w) := by
  obtain ⟨h12, hsz, hk1, hk4⟩ := sys_sizes hs
  have hz : SzR R := fun j hj => by have := hsz j hj; unfold maxLen; omega
  have hz1 : ∀ j, j < R.length → (nthR R j).1.size ≤ 1000 := fun j hj => by have := hsz j hj; omega
  have hlen : R.length ≤ 2 ^ 40 := by omega
  have hkeep := keep3 hm.2
  have hki : k ≤ 3 := by have := hm.1; omega
  have hkj : 1 ≤ k := by omega
  obtain ⟨w1, hw1⟩ : ∃ w1, (w.alloc (.cells #[.int .i64 (k : Nat), .slice a R.length cap] 25)).alloc (.cells #[.int .i64 0, .slice none 0 0, .slice none 0 0] 30) = w1 := ⟨_, rfl⟩
  have HB1 : Hid (Below w.heap.size w w1) := Lib.hid (by rw [← hw1]; exact ((Below.refl _ _).alloc (Nat.le_refl _) _).alloc (by simp) _)
  have HX1 : Hid (w1.heap[w.heap.size]? = some (.cells #[.int .i64 (k : Nat), .slice a R.length cap] 25 (0, 0))) := Lib.hid (by
    rw [← hw1, (alloc_belowS _ _).block _ (by simp)]; exact alloc_at _ _)
  have HZ1 : Hid (w1.heap[w.heap.size + 1]? = some (.cells #[.int .i64 0, .slice none 0 0, .slice none 0 0] 30 (0, 0))) := Lib.hid (by
    rw [← hw1]; have h := alloc_at (w.alloc (.cells #[.int .i64 (k : Nat), .slice a R.length cap] 25)) (.cells #[.int .i64 0, .slice none 0 0, .slice none 0 0] 30); simpa using h)
  have HR1 := Lib.hid (RulesIn.later hl HB1.out)
  have HOK := Lib.hid (specSystemOk_any (k : Nat) R a cap w1 HR1.out hlen hz)
  have HEN := Lib.hid (fun v W h hv => l07Ends_any (k : Nat) R v a cap W h hlen hz1 hv)
  have HCU := Lib.hid (fun v W h hv => l07Cut_any (k : Nat) R v a cap W h hlen hz hv)
  have HLT := Lib.hid (fun x W h => l13LetterR_any x W h)
  have HFI := Lib.hid (fun v S aS cS W h h2 => l08Find_any v S aS cS W h h2)
  have HKE := Lib.hid hkeep
  have HSY := Lib.hid hs
  clear hl hs hz hz1 hsz hm hkeep
  obtain ⟨x0, x1⟩ := sys_cells HX1.out
  go_enter Tryz.func98, Tryz.ntmps98
  go_upto_region 1 with fail
  generalize (w.alloc (.cells #[.int .i64 (k : Nat), .slice a R.length cap] 25)).alloc (.cells #[.int .i64 0, .slice none 0 0, .slice none 0 0] 30) = wg at *
  subst hw1
  go_wp2_with fail
  refine HOK.out.mono ?_
  rintro e w3 ⟨b, hb, rfl, hb2⟩
  obtain rfl : b = true := hb.2 HSY.out
  have HB13 := Lib.hid hb2
  clear hb hb2 x0 x1 HOK
  have HB3 := Lib.hid (Below.now HB1.out HB13.out)
  have HX3 := Lib.hid (blk_later HX1.out HB13.out)
  have HZ3 := Lib.hid (blk_later HZ1.out HB13.out)
  have HR3 := Lib.hid (RulesIn.later HR1.out HB13.out)
  have HGZ : Hid (w.heap.size + 1 < w3.heap.size) := Lib.hid (Array.getElem?_eq_some_iff.1 HZ3.out).1
  clear HX1 HZ1 HR1 HB13
  obtain ⟨x0, -⟩ := sys_cells HX3.out
  have HA0 : Hid (AutS w3 ((w3.alloc (.cells #[.int .i64 (k : Nat), .slice none 0 0, .slice none 0 0] 30)).alloc (.cells #[.string ⟨#[]⟩] 9)) w3.heap.size (k : Nat) (.slice none 0 0) (.slice none 0 0) [] [] 9 1 (.slice (some ⟨w3.heap.size + 1, 0, none⟩) 1 1) [(⟨#[]⟩ : ByteArray)].length ([(⟨#[]⟩ : ByteArray)].map Value.string)) := Lib.hid (AutS.start2 w3 #[.string ⟨#[]⟩] 9 1 rfl _)
  go_upto_region 5 with fail
  clear x0
  generalize (w3.alloc (.cells #[.int .i64 (k : Nat), .slice none 0 0, .slice none 0 0] 30)).alloc (.cells #[.string ⟨#[]⟩] 9) = w4 at *
  go_wp2_with fail
  go_loopw [5, 6] (fun vs vi wr => ∃ (i : Nat) (S : List ByteArray) (v uF : Value) (nx : List Int) (fin : List Bool), vi = .int .i64 (i : Nat) ∧ i ≤ S.length ∧ Hid (0 < S.length ∧ fin.length = i) ∧ Hid (CoA k S nx i 0) ∧ Hid (AutS w3 wr w3.heap.size (k : Nat) v uF nx fin 9 1 vs S.length (S.map Value.string))) (fun _ vi _ => 41 - (intOf vi).toNat)
  case atStart => exact ⟨0, [⟨#[]⟩], _, _, [], [], rfl, by simp, Lib.hid ⟨by simp, rfl⟩, Lib.hid (CoA.start _), HA0⟩
  case round =>
    clear HA0
    obtain ⟨i, S, v, uF, nx, fin, rfl, hiS, HF, HP, HS⟩ := hrel
    obtain ⟨aS, cS, rfl⟩ := owns_form HS.out.st
    have hfew := endq_few hkj hki HP.out.nd HP.out.ends
    by_cases hlt : i < S.length
    · have hii : (i : Int) < (S.length : Int) := by omega
      have h80 : ((i : Int) == 80) = false := by rw [beq_eq_false_iff_ne]; omega
      have x0 := (sys_cells (blk_later HX3.out HS.out.aut.bel)).1
      obtain ⟨a6, c6, rfl⟩ := owns_form HS.out.aut.fn
      have HA := Lib.hid HS.out.aut
      have HNXT := Lib.hid HS.out.aut.fn
      have hfl : fin.length ≤ 40 := by have := HF.out.2; omega
      generalize hW : wr = wr0 at *
      clear hW
      go_upto_region 10 with fail
      have HN1 : Hid ([Value.bool true].length = 1) := Lib.hid rfl
      have HN2 : Hid (∀ v ∈ [Value.bool true], v.oneCell' = true) := Lib.hid (fun v hv => by simp at hv; rcases hv with rfl; rfl)
      obtain ⟨z0, z1, z2⟩ := HA.out.cells
      have zf := HA.out.frz 2
      go_upto_region 11 with (at_builtin; refine wpList_appH (n := fin.length) (wr := wr0) (news := [Value.bool true]) rfl (.tmp 28) (.tmp 29) rfl Tryz.underlying28 Tryz.infoBool rfl (by decide) rfl HNXT.out HA.out.lt rfl HN1.out HN2.out (by unfold maxLen; omega) (by omega) ?_; intro g4 c4 w5 ho4 hg4 hr4; obtain ⟨q0, q1, q2, qf0, qf1, qf2⟩ := aut_facts ((HA.out.later (alloc_belowS wr0 _)).grownF hg4))
      have HQ := Lib.hid ((HS.out.later (alloc_belowS wr0 _)).putF (x := true) hg4 ho4 hr4)
      clear ho4 hg4 hr4 z0 z1 z2 zf q0 q1 q2 qf0 qf1 qf2 HA HNXT HS x0
      generalize w5.setCell ⟨w3.heap.size, 2, none⟩ (.slice (some ⟨g4, 0, none⟩) (fin.length + 1) c4) = w11 at *
      have HF2 : Hid ((fin ++ [true]).length = i + 1) := Lib.hid (by rw [List.length_append, HF.out.2]; rfl)
      generalize (Value.slice (some ⟨g4, 0, none⟩) (fin.length + 1) c4) = uF2 at *
      generalize fin ++ [true] = fin2 at *
      clear HF hfl
      go_wp2_with fail
      go_loopw [5, 7] (fun vs vx wr => ∃ (x : Nat) (S : List ByteArray) (v : Value) (nx : List Int), vx = .int .i64 (x : Nat) ∧ x ≤ k ∧ i < S.length ∧ Hid (CoA k S nx i x) ∧ Hid (AutS w3 wr w3.heap.size (k : Nat) v uF2 nx fin2 9 1 vs S.length (S.map Value.string))) (fun _ vx _ => k - (intOf vx).toNat)
      case atStart => exact ⟨0, S, v, nx, rfl, Nat.zero_le _, hlt, HP, HQ⟩
      case round =>
        clear HP HQ hii hlt hiS hfew
        obtain ⟨x, S, v, nx, rfl, hx, hiS, HP, HS⟩ := hrel
        have hfew := endq_few hkj hki HP.out.nd HP.out.ends
        obtain ⟨aS, cS, rfl⟩ := owns_form HS.out.st
        obtain ⟨a5, c5, rfl⟩ := owns_form HS.out.aut.nx
        have hii : (i : Int) < (S.length : Int) := by omega
        have x0 := (sys_cells (blk_later HX3.out HS.out.aut.bel)).1
        have hnl := HP.out.small hki hx (by omega)
        by_cases hlx : x < k
        · have hxi : (x : Int) < (k : Int) := by omega
          have HBW := Lib.hid HS.out.aut.bel
          obtain ⟨bS, oS, rfl, hbS, hcS⟩ := StrsIn.cell (l := S) (owns_strs HS.out.st) hiS
          have cS0 := hcS i hiS
          have hge : nthS S i = S[i] := by unfold nthS; rw [List.getD_eq_getElem?_getD, List.getElem?_eq_getElem hiS]; rfl
          obtain ⟨s, hse⟩ : ∃ s, S[i] = s := ⟨_, rfl⟩
          rw [hge, hse] at cS0
          have HEQ : Hid (EndQ k s) := Lib.hid (by rw [← hse]; exact HP.out.ends _ (List.getElem_mem hiS))
          have hs3 : s.size ≤ 3 := HEQ.out.1
          have HEX := Lib.hid (HEQ.out.nxt HKE.out hlx)
          have hsum : ¬ 9223372036854775807 < s.size + (letterN x).size := by rw [letterN_size]; omega
          have hss : (s ++ letterN x).size ≤ 1000 := by rw [ByteArray.size_append, letterN_size]; omega
          clear hcS hge hse HEQ
          go_upto_region 14 with fail
          go_cut [8] (fun v wx => v = .string (s ++ letterN x) ∧ Below wr.heap.size wr wx)
          case first =>
            go_region_held3 (fun w' => w'.cell? ⟨bS, oS + i, none⟩ = some (.string s)) (go_keep) (first
              | (go_at_call 114; refine (HLT.out x _ (by omega)).mono ?_; rintro e w7 ⟨rfl, hb7⟩; have k7 : Below wr.heap.size wr w7 := Below.now (by repeat (first | exact Below.refl _ _ | refine Below.drew ?_ | refine below_drewN ?_ _)) hb7; have s0 := (k7.cell (World.block_lt_of_cell? wr _ cS0)).trans cS0; clear hb7))
            all_goals
              go_wp2_with fail
              go_meet
              exact ⟨rfl, by repeat (first | exact k7 | refine Below.drew ?_ | refine below_drewN ?_ _)⟩
          case rest =>
            obtain ⟨rfl, hb8⟩ := hcut
            have HS8 := Lib.hid (HS.out.later hb8)
            have HE8 := Lib.hid (HEN.out _ wc (RulesIn.later HR3.out HS8.out.aut.bel) hss)
            have HC8 := Lib.hid (fun W h => HCU.out _ W (RulesIn.later HR3.out h) hss)
            clear hb8 x0 hsum hss HS HBW cS0
            obtain ⟨y0, y1⟩ := sys_cells (blk_later HX3.out HS8.out.aut.bel)
            generalize s ++ letterN x = v1 at *
            go_wp2_with fail
            refine HE8.out.mono ?_
            rintro e w10 ⟨rfl, hb10⟩
            have HS10 := Lib.hid (HS8.out.later hb10)
            clear hb10 HS8 HE8 y0 y1
            cases hq : endsR R v1
            · obtain ⟨y0, y1⟩ := sys_cells (blk_later HX3.out HS10.out.aut.bel)
              go_wp2_with fail
              refine (HC8.out _ HS10.out.aut.bel).mono ?_
              rintro e w11 ⟨rfl, hb11⟩
              have HS11 := Lib.hid (HS10.out.later hb11)
              clear hb11 HS10 HC8 y0 y1
              generalize cutR R v1 = t at *
              have HFQ := Lib.hid (HFI.out t S (some ⟨bS, oS, none⟩) cS w11 (owns_strs HS11.out.st) (by omega))
              have hI := idxB_two S t
              go_wp2_with fail
              refine HFQ.out.mono ?_
              rintro e w12 ⟨rfl, hb12⟩
              have HS12 := Lib.hid (HS11.out.later hb12)
              clear hb12 HS11 HFQ
              generalize idxB S t = q at *
              rcases hI with ⟨j, hj, rfl⟩ | ⟨hj, rfl⟩
              · have HPN := Lib.hid (HP.out.put (v := (j : Int)) (by omega) (by omega))
                have hj0 : ¬ (j : Int) < 0 := by omega
                have HA := Lib.hid HS12.out.aut
                have HNXT := Lib.hid HS12.out.aut.nx
                go_upto_region 22 with fail
                have HN1 : Hid ([Value.int .i64 (j : Int)].length = 1) := Lib.hid rfl
                have HN2 : Hid (∀ v ∈ [Value.int .i64 (j : Int)], v.oneCell' = true) := Lib.hid (fun v hv => by simp at hv; rcases hv with rfl; rfl)
                obtain ⟨z0, z1, z2⟩ := HA.out.cells
                have zf := HA.out.frz 1
                go_wp2_with (at_builtin; refine wpList_appH (n := nx.length) (wr := w12) (news := [Value.int .i64 (j : Int)]) rfl (.tmp 68) (.tmp 70) rfl Tryz.underlying27 Tryz.infoInt rfl (by decide) rfl HNXT.out HA.out.lt rfl HN1.out HN2.out (by unfold maxLen; omega) (by omega) ?_; intro g4 c4 w5 ho4 hg4 hr4; obtain ⟨q0, q1, q2, qf0, qf1, qf2⟩ := aut_facts ((HA.out.later (alloc_belowS w12 _)).grownN hg4))
                have HQ := Lib.hid ((HS12.out.later (alloc_belowS w12 _)).putN (x := (j : Int)) hg4 ho4 hr4)
                clear ho4 hg4 hr4 z0 z1 z2 zf
                go_wp2_with fail
                go_roundw
                case rel => exact ⟨x + 1, S, _, _, by go_num, by omega, hiS, HPN, HQ⟩
                case measure => simp [intOf]; omega
              · have HPN := Lib.hid ((HP.out.new hj HEX.out).put (v := (S.length : Int)) (by omega) (by rw [List.length_append]; simp; omega))
                go_upto_region 21 with fail
                have HMS1 : Hid ([Value.string t].length = 1) := Lib.hid rfl
                have HMS2 : Hid (∀ v ∈ [Value.string t], v.oneCell' = true) := Lib.hid (fun v hv => by rw [List.mem_singleton.1 hv]; rfl)
                have HST := Lib.hid HS12.out.st
                have HSZ3 : Hid (w3.heap.size ≤ w12.heap.size) := Lib.hid HS12.out.aut.bel.size
                go_upto_region 22 with (at_builtin; refine wpList_appH (n := S.length) (wr := w12) (news := [Value.string t]) rfl (.tmp 63) (.tmp 65) rfl Tryz.underlying47 Tryz.infoStr rfl (by decide) rfl HST.out HSZ3.out rfl HMS1.out HMS2.out (by unfold maxLen; omega) (by omega) ?_; intro g6 c6 w13 ho6 hg6 hr6)
                have HSA : Hid ((S ++ [t]).map Value.string = S.map Value.string ++ [Value.string t]) := Lib.hid (by simp)
                have HSN : Hid ((S ++ [t]).length = S.length + 1) := Lib.hid (by simp)
                have HS13 : Hid (AutS w3 w13 w3.heap.size (k : Nat) (.slice a5 nx.length c5) uF2 nx fin2 9 1 (.slice (some ⟨g6, 0, none⟩) (S ++ [t]).length c6) (S ++ [t]).length ((S ++ [t]).map Value.string)) := Lib.hid (by
                  rw [HSA.out, HSN.out]
                  exact (HS12.out.later (alloc_belowS w12 _)).putS hg6 ho6 hr6)
                clear ho6 hg6 hr6 HS12
                have hiS2 : i < (S ++ [t]).length := by rw [HSN.out]; omega
                have HA := Lib.hid HS13.out.aut
                have HNXT := Lib.hid HS13.out.aut.nx
                have HN1 : Hid ([Value.int .i64 (S.length : Int)].length = 1) := Lib.hid rfl
                have HN2 : Hid (∀ v ∈ [Value.int .i64 (S.length : Int)], v.oneCell' = true) := Lib.hid (fun v hv => by simp at hv; rcases hv with rfl; rfl)
                obtain ⟨z0, z1, z2⟩ := HA.out.cells
                have zf := HA.out.frz 1
                go_wp2_with (at_builtin; refine wpList_appH (n := nx.length) (wr := w13) (news := [Value.int .i64 (S.length : Int)]) rfl (.tmp 68) (.tmp 70) rfl Tryz.underlying27 Tryz.infoInt rfl (by decide) rfl HNXT.out HA.out.lt rfl HN1.out HN2.out (by unfold maxLen; omega) (by omega) ?_; intro g4 c4 w5 ho4 hg4 hr4; obtain ⟨q0, q1, q2, qf0, qf1, qf2⟩ := aut_facts ((HA.out.later (alloc_belowS w13 _)).grownN hg4))
                have HQ := Lib.hid ((HS13.out.later (alloc_belowS w13 _)).putN (x := (S.length : Int)) hg4 ho4 hr4)
                clear ho4 hg4 hr4 z0 z1 z2 zf
                go_wp2_with fail
                go_roundw
                case rel => exact ⟨x + 1, S ++ [t], .slice (some ⟨g4, 0, none⟩) (nx.length + 1) c4, _, by go_num, by omega, hiS2, HPN, by rw [HSN.out] at HQ ⊢; exact HQ⟩
                case measure => simp [intOf]; omega
            · have HPN := Lib.hid (HP.out.put (v := -1) (by omega) (by omega))
              have HA := Lib.hid HS10.out.aut
              have HNXT := Lib.hid HS10.out.aut.nx
              go_upto_region 16 with fail
              have HN1 : Hid ([Value.int .i64 (-1)].length = 1) := Lib.hid rfl
              have HN2 : Hid (∀ v ∈ [Value.int .i64 (-1)], v.oneCell' = true) := Lib.hid (fun v hv => by simp at hv; rcases hv with rfl; rfl)
              obtain ⟨z0, z1, z2⟩ := HA.out.cells
              have zf := HA.out.frz 1
              go_wp2_with (at_builtin; refine wpList_appH (n := nx.length) (wr := w10) (news := [Value.int .i64 (-1)]) rfl (.tmp 49) (.tmp 50) rfl Tryz.underlying27 Tryz.infoInt rfl (by decide) rfl HNXT.out HA.out.lt rfl HN1.out HN2.out (by unfold maxLen; omega) (by omega) ?_; intro g4 c4 w5 ho4 hg4 hr4; obtain ⟨q0, q1, q2, qf0, qf1, qf2⟩ := aut_facts ((HA.out.later (alloc_belowS w10 _)).grownN hg4))
              have HQ := Lib.hid ((HS10.out.later (alloc_belowS w10 _)).putN (x := -1) hg4 ho4 hr4)
              clear ho4 hg4 hr4 z0 z1 z2 zf
              go_wp2_with fail
              go_roundw
              case rel => exact ⟨x + 1, S, _, _, by go_num, by omega, hiS, HPN, HQ⟩
              case measure => simp [intOf]; omega
        · have hxi : ¬ (x : Int) < (k : Int) := by omega
          obtain rfl : k = x := by omega
          have HPR := Lib.hid HP.out.row
          have HFF : Hid (0 < S.length ∧ fin2.length = i + 1) := Lib.hid ⟨by omega, HF2.out⟩
          generalize hW : wr = wr1 at *
          clear hW
          go_wp2_with fail
          go_roundw
          case rel => exact ⟨i + 1, S, _, _, _, _, by go_num, by omega, HFF, HPR, HS⟩
          case measure => simp [intOf]; omega
    · have hii : ¬ (i : Int) < (S.length : Int) := by omega
      obtain rfl : i = S.length := by omega
      obtain ⟨a5, c5, rfl⟩ := owns_form HS.out.aut.nx
      obtain ⟨a6, c6, rfl⟩ := owns_form HS.out.aut.fn
      have HOKA : Hid (AutP k nx fin ∧ fin.length ≤ 40) := Lib.hid ⟨HP.out.ok hkj hki HF.out.1 HF.out.2, by rw [HF.out.2]; exact hfew⟩
      have HA := Lib.hid HS.out.aut
      clear HP HF hfew
      generalize hW : wr = w9 at *
      clear hW
      have HZ9 := Lib.hid (blk_later HZ3.out HA.out.bel)
      obtain ⟨q0, q1, q2⟩ := HA.out.cells
      have FF := Lib.hid (HA.out.fin (z := w.heap.size + 1) HB3.out (by have := HGZ.out; omega) (by omega) (.int .i64 (k : Nat)) (.slice a5 nx.length c5) (.slice a6 fin.length c6))
      have FR : Hid (RetRS k w (.returned (.tuple #[.agg #[.int .i64 (k : Nat), .slice a5 nx.length c5, .slice a6 fin.length c6], .bool true])) (((w9.setCell ⟨w.heap.size + 1, 0, none⟩ (.int .i64 (k : Nat))).setCell ⟨w.heap.size + 1, 1, none⟩ (.slice a5 nx.length c5)).setCell ⟨w.heap.size + 1, 2, none⟩ (.slice a6 fin.length c6))) := Lib.hid ⟨_, _, _, _, _, _, rfl, HOKA.out, FF.out.1, FF.out.2⟩
      obtain ⟨m0, m1, m2, mf0, mf1, mf2⟩ := aut_facts HZ9.out
      obtain ⟨u0, u1, u2⟩ := aut_cells (aut_three HZ9.out (.int .i64 (k : Nat)) (.slice a5 nx.length c5) (.slice a6 fin.length c6))
      clear HS HA
      go_wp2_with fail
      refine bodyPost_ret (v := .tuple #[.agg #[.int .i64 (k : Nat), .slice a5 nx.length c5, .slice a6 fin.length c6], .bool true]) ?_ rfl FR.out
      simp [results, Tryz.results98, go_sem, u0, u1, u2]
end Go.Proofs.YtoddpmdjjgnpgaaGreatDoor
