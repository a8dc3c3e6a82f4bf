/-
  AllReduced of the program.
-/
import Derived.Test.YtggfhephdcnpcaaGreatDoorGrp35
import Derived.Test.YtggfhephdcnpcaaGreatDoorGrp27
import Derived.Test.YtggfhephdcnpcaaGreatDoorGrp17
namespace Go.Proofs.YtggfhephdcnpcaaGreatDoor
open Go.RowKit Go.Maps
set_option linter.unusedVariables false
/-- the bound behind i words -/
def bndW (L : List ByteArray) : Nat → ByteArray
  | 0 => ⟨#[]⟩
  | i + 1 => nthS L i
theorem ltB_irr (a : ByteArray) : ltB a a = false := by
  unfold ltB
  rw [← gt_less]
  simp
theorem ltB_asymm {a b : ByteArray} (h : ltB a b = true) : ltB b a = false := by
  unfold ltB at *
  rw [← gt_less, h]
  rfl
theorem nthS_get {L : List ByteArray} {i : Nat} (h : i < L.length) : nthS L i = L[i] := by
  unfold nthS; rw [List.getD_eq_getElem?_getD, List.getElem?_eq_getElem h]; rfl
/-- in a rising list, the first one above one is the next one -/
theorem rise_next {L : List ByteArray} (hp : L.Pairwise (fun a b => ltB a b = true)) {i : Nat} (hi : i + 1 < L.length) : (L.find? fun u => ltB (nthS L i) u) = some (nthS L (i + 1)) := by
  rw [List.pairwise_iff_getElem] at hp
  rw [List.find?_eq_some_iff_getElem]
  rw [nthS_get hi, nthS_get (show i < L.length by omega)]
  refine ⟨hp i (i + 1) (by omega) hi (by omega), i + 1, hi, rfl, fun j hj => ?_⟩
  by_cases e : j = i
  · subst e
    rw [ltB_irr]; rfl
  · rw [ltB_asymm (hp j i (by omega) (by omega) (by omega))]; rfl
theorem firstF_at {R : List RulD} {k n : Nat} (hk : k ≤ 4) (hn : 0 < n) {i : Nat} (hi : i < (wordsF R k n ⟨#[]⟩).length) : firstF R k (bndW (wordsF R k n ⟨#[]⟩) i) n ⟨#[]⟩ = some (nthS (wordsF R k n ⟨#[]⟩) i) := by
  cases i with
  | succ i => exact rise_next (wordsF_rise hk n ⟨#[]⟩) hi
  | zero =>
    unfold firstF
    rw [List.find?_eq_some_iff_getElem, nthS_get hi]
    refine ⟨?_, 0, hi, rfl, fun j hj => by omega⟩
    have hs := wordsF_size R k n ⟨#[]⟩ _ (List.getElem_mem hi)
    have h0 : (⟨#[]⟩ : ByteArray).size = 0 := rfl
    have hsz : ∀ z : ByteArray, z.data.toList.length = z.size := fun z => rfl
    show Op.bytesLess [] _ = true
    refine less_nil fun e => ?_
    have h1 := hsz (wordsF R k n ⟨#[]⟩)[0]
    rw [e] at h1
    simp only [List.length_nil] at h1
    omega
theorem bndW_size {R : List RulD} {k n : Nat} {i : Nat} (hi : i ≤ (wordsF R k n ⟨#[]⟩).length) : (bndW (wordsF R k n ⟨#[]⟩) i).size = 0 ∨ (bndW (wordsF R k n ⟨#[]⟩) i).size = n := by
  cases i with
  | zero => exact .inl rfl
  | succ i =>
    right
    show (nthS _ i).size = n
    rw [nthS_get (show i < _ by omega)]
    have hs := wordsF_size R k n ⟨#[]⟩ _ (List.getElem_mem (show i < _ by omega))
    have h0 : (⟨#[]⟩ : ByteArray).size = 0 := rfl
    omega
theorem EnvF.onto {wB W W' : World} {b p : Nat} {k : Int} {a : Option Addr} {cap : Nat} {R : List RulD} {own : Option Nat} (h : EnvF W b p k a cap R) (hr : RulesIn wB a R) (ht : Tab10 wB) (hb : Below wB.heap.size wB W') (hg : W.grownBy W' own) (hne : own ≠ some p) : EnvF W' b p k a cap R := by
  obtain ⟨r1, r2, r3⟩ := h.rd
  have hn : ∀ o, some (⟨p, o, none⟩ : Addr).block ≠ own := fun o e => hne e.symm
  exact ⟨⟨hg.cell r1 (hn 0), hg.cell r2 (hn 1), hg.cell r3 (hn 2)⟩, hg.cell h.mp (hn 3), hr.later hb, ht.later hb, h.ne⟩
theorem EnvF.lt {W : World} {b p : Nat} {k : Int} {a : Option Addr} {cap : Nat} {R : List RulD} (h : EnvF W b p k a cap R) : p < W.heap.size := World.block_lt_of_cell? W ⟨p, 0, none⟩ h.rd.1
theorem DeadAt.lt {R : List RulD} {k b : Nat} {W : World} (h : DeadAt R k b W) : b < W.heap.size := by obtain ⟨_, _, h1, _⟩ := h; exact h1.lt
theorem DeadAt.kept2 {R : List RulD} {k b : Nat} {W W' : World} {own : Option Nat} (h : DeadAt R k b W) (hg : W.grownBy W' own) (hne : some b ≠ own) : DeadAt R k b W' := by
  obtain ⟨m, D, h1, h2⟩ := h
  exact ⟨m, D, h1.kept hg hne, h2⟩
/-- a row lies apart from the reader and its map -/
def NeB (v : Value) (p b : Nat) : Prop := ∀ k, v.ownBlock = some k → k ≠ p ∧ k ≠ b
theorem owns_strs1 {w : World} {base : Nat} {T : TypeId} {a : Option Addr} {n m cap : Nat} {l : List ByteArray} (h : w.ownsRow base T 1 (.slice a m cap) n (strVals l)) : StrsIn w a l := owns_cells h
theorem take_nth {L : List ByteArray} {i : Nat} (h : i < L.length) : L.take (i + 1) = L.take i ++ [nthS L i] := by
  rw [List.take_succ_eq_append_getElem h, nthS_get h]
theorem nth_take {L : List ByteArray} {i : Nat} (h : i < L.length) : nthS (L.take (i + 1)) i = nthS L i := by
  rw [nthS_get (by rw [List.length_take]; omega), nthS_get h, List.getElem_take]
set_option maxRecDepth 100000 in
set_option maxHeartbeats 4000000 in
theorem words_any (k n : Nat) (R : List RulD) (b p : Nat) (a : Option Addr) (cap : Nat) (wB w : World) (hn3 : n ≤ 300) (hlen : R.length ≤ 2 ^ 40) (G : SysG R k) (hL : (wordsF R k n ⟨#[]⟩).length ≤ 256) (hr : RulesIn wB a R) (ht : Tab10 wB) (hbw : Below wB.heap.size wB w) (hbB : wB.heap.size ≤ b) (hen : EnvF w b p (k : Nat) a cap R) (hda : DeadAt R k b w) :
    Calls Tryz.prog 162 #[.pointer (some ⟨p, 0, none⟩), .int .i64 (n : Nat), .int .i64 ((wordsF R k n ⟨#[]⟩).length : Nat)] w (RetSl 9 1 (wordsF R k n ⟨#[]⟩).length (strVals (wordsF R k n ⟨#[]⟩)) wB) := by
  have HRB := Lib.hid hr
  have HTB := Lib.hid ht
  have HEN0 := Lib.hid hen
  have HDA0 := Lib.hid hda
  have HFA0 := Lib.hid (fun bound W => firstAbove_any k R b p a cap bound n hn3 hlen G n ⟨#[]⟩ W)
  have HAT := Lib.hid (fun i => firstF_at (R := R) (n := n) (i := i) G.k4)
  have HBS := Lib.hid (fun i => bndW_size (R := R) (k := k) (n := n) (i := i))
  have HZ : Hid (n = 0 → wordsF R k n ⟨#[]⟩ = [⟨#[]⟩]) := Lib.hid (fun h => by rw [h]; rfl)
  have HB0 := Lib.hid (Bld.nil 9 1 hbw)
  generalize hLe : wordsF R k n ⟨#[]⟩ = L at *
  clear hr ht hen hda hbw hLe
  go_enter Tryz.func162, Tryz.ntmps162
  go_wp2_with fail
  go_loopw [7, 8] (fun vo vb wr => ∃ i : Nat, i ≤ L.length ∧ vb = .string (bndW L i) ∧ Bld 9 1 wB wr vo i (strVals (L.take i)) ∧ NeB vo p b ∧ Hid (EnvF wr b p (k : Nat) a cap R) ∧ Hid (DeadAt R k b wr)) (fun vo _ _ => L.length - lenV vo)
  case atStart => exact ⟨0, Nat.zero_le _, rfl, HB0.out, fun k hk => (by cases hk), HEN0, HDA0⟩
  case round =>
    clear HB0 HEN0 HDA0
    obtain ⟨i, hi, rfl, hbd, hne, HEN, HDA⟩ := hrel
    obtain ⟨go, co, rfl⟩ := owns_form hbd.1
    have HBD := Lib.hid hbd
    have HNE : Hid (NeB (.slice go i co) p b) := Lib.hid hne
    clear hbd hne
    by_cases hlt : i < L.length
    · have HBW : Hid (bndW L (i + 1) = nthS L i) := Lib.hid rfl
      have HTK := Lib.hid (take_nth hlt)
      have HTN := Lib.hid (nth_take hlt)
      have HFA := Lib.hid (HFA0.out (bndW L i) wr (Nat.zero_add n) (HBS.out i hi) (fun y hy => by cases hy) HEN.out HDA.out)
      have HATi := Lib.hid (fun h => HAT.out i h hlt)
      have HZ2 : Hid (n = 0 → nthS L i = ⟨#[]⟩) := Lib.hid (fun h => by
        have h1 := HZ.out h
        have h2 : i = 0 := by rw [h1] at hlt; simpa using hlt
        rw [h1, h2]; rfl)
      generalize bndW L i = bd at *
      generalize nthS L i = x at *
      generalize hlL : L.length = lL at *
      go_wp2_with fail
      refine HFA.out.mono ?_
      rintro e5 w5 ⟨hg5, hd5, hcase⟩
      by_cases hn0 : n = 0
      · obtain rfl : x = ⟨#[]⟩ := HZ2.out hn0
        have hnb : ((n : Int) == 0) = true := by rw [hn0]; rfl
        clear hn0 hn3
        rcases hcase with ⟨u, hu, rfl⟩ | ⟨hu, z, rfl⟩
        · have hcase := hu
          have HB5 := Lib.hid (keptB HBD.out hg5 (fun k hk e => (HNE.out k hk).2 (by injection e with e; exact e.symm)) (fun k hk => by cases hk; exact hbB))
          have HE5 := Lib.hid (HEN.out.grown hg5)
          have HD5 := Lib.hid hd5
          have hB5 := HB5.out.2.size
          clear hg5 hd5 hcase hu HBD HEN HDA HFA
          have HA5 := Lib.hid (HB5.out.later (alloc_belowS w5 (.cells #[.string ⟨#[]⟩] 9)))
          have HN1 : Hid ([Value.string ⟨#[]⟩].length = 1 * 1) := Lib.hid rfl
          have HN2 : Hid (∀ y ∈ [Value.string ⟨#[]⟩], y.oneCell' = true) := Lib.hid (fun y hy => by rw [List.mem_singleton.1 hy]; rfl)
          go_wp2_with (at_builtin; refine wpList_appM rfl (.tmp 33) (.tmp 35) rfl Tryz.underlying74 Tryz.infoStr rfl (by decide) rfl HA5.out rfl (Src.lit _) HN1.out HN2.out ?b1 ?b2 ?b3)
          case b1 => unfold maxLen; omega
          case b2 => omega
          intro v7 w7 hb7 hg7 ho7
          have HB7 : Hid (Bld 9 1 wB w7 v7 (i + 1) (strVals (L.take (i + 1)))) := Lib.hid (by
            rw [HTK.out, strVals_app]; exact hb7)
          have HG7 := Lib.hid ((World.grownBy_alloc w5 (.cells #[.string ⟨#[]⟩] 9) (Value.slice go i co).ownBlock).trans hg7)
          have HE7 : Hid (EnvF w7 b p (k : Nat) a cap R) := Lib.hid (HE5.out.onto HRB.out HTB.out HB7.out.2 HG7.out (fun e => (HNE.out p e).1 rfl))
          have HD7 : Hid (DeadAt R k b w7) := Lib.hid (HD5.out.kept2 HG7.out (fun e => (HNE.out b e.symm).2 rfl))
          have HNE7 : Hid (NeB v7 p b) := Lib.hid (by
            rcases ho7 with h | h
            · intro k hk; exact HNE.out k (h ▸ hk)
            · intro k hk
              have e := Option.some.inj (h.symm.trans hk)
              have e2 : (w5.alloc (.cells #[.string ⟨#[]⟩] 9)).heap.size = w5.heap.size + 1 := by simp
              have h1 := HE5.out.lt
              have h2 := HD5.out.lt
              omega)
          obtain ⟨g7, c7, rfl⟩ := owns_slot HB7.out.1 (by omega)
          have hc7 : w7.cell? ⟨g7, i, none⟩ = some (.string ⟨#[]⟩) := by
            obtain ⟨b', off, e1, _, hc⟩ := (owns_strs1 HB7.out.1).cell (i := i) (by rw [List.length_take]; omega)
            cases e1
            have h := hc i (by rw [List.length_take]; omega)
            rw [HTN.out, Nat.zero_add] at h
            exact h
          clear hb7 hg7 ho7
          go_wp2_with fail
          go_roundw
          case rel => exact ⟨i + 1, by omega, by rw [HBW.out], HB7.out, HNE7.out, HE7, HD7⟩
          case measure => simp only [lenV]; omega
        · have hcase := hu
          have HB5 := Lib.hid (keptB HBD.out hg5 (fun k hk e => (HNE.out k hk).2 (by injection e with e; exact e.symm)) (fun k hk => by cases hk; exact hbB))
          have HE5 := Lib.hid (HEN.out.grown hg5)
          have HD5 := Lib.hid hd5
          have hB5 := HB5.out.2.size
          clear hg5 hd5 hcase hu HBD HEN HDA HFA
          have HA5 := Lib.hid (HB5.out.later (alloc_belowS w5 (.cells #[.string ⟨#[]⟩] 9)))
          have HN1 : Hid ([Value.string ⟨#[]⟩].length = 1 * 1) := Lib.hid rfl
          have HN2 : Hid (∀ y ∈ [Value.string ⟨#[]⟩], y.oneCell' = true) := Lib.hid (fun y hy => by rw [List.mem_singleton.1 hy]; rfl)
          go_wp2_with (at_builtin; refine wpList_appM rfl (.tmp 33) (.tmp 35) rfl Tryz.underlying74 Tryz.infoStr rfl (by decide) rfl HA5.out rfl (Src.lit _) HN1.out HN2.out ?c1 ?c2 ?c3)
          case c1 => unfold maxLen; omega
          case c2 => omega
          intro v7 w7 hb7 hg7 ho7
          have HB7 : Hid (Bld 9 1 wB w7 v7 (i + 1) (strVals (L.take (i + 1)))) := Lib.hid (by
            rw [HTK.out, strVals_app]; exact hb7)
          have HG7 := Lib.hid ((World.grownBy_alloc w5 (.cells #[.string ⟨#[]⟩] 9) (Value.slice go i co).ownBlock).trans hg7)
          have HE7 : Hid (EnvF w7 b p (k : Nat) a cap R) := Lib.hid (HE5.out.onto HRB.out HTB.out HB7.out.2 HG7.out (fun e => (HNE.out p e).1 rfl))
          have HD7 : Hid (DeadAt R k b w7) := Lib.hid (HD5.out.kept2 HG7.out (fun e => (HNE.out b e.symm).2 rfl))
          have HNE7 : Hid (NeB v7 p b) := Lib.hid (by
            rcases ho7 with h | h
            · intro k hk; exact HNE.out k (h ▸ hk)
            · intro k hk
              have e := Option.some.inj (h.symm.trans hk)
              have e2 : (w5.alloc (.cells #[.string ⟨#[]⟩] 9)).heap.size = w5.heap.size + 1 := by simp
              have h1 := HE5.out.lt
              have h2 := HD5.out.lt
              omega)
          obtain ⟨g7, c7, rfl⟩ := owns_slot HB7.out.1 (by omega)
          have hc7 : w7.cell? ⟨g7, i, none⟩ = some (.string ⟨#[]⟩) := by
            obtain ⟨b', off, e1, _, hc⟩ := (owns_strs1 HB7.out.1).cell (i := i) (by rw [List.length_take]; omega)
            cases e1
            have h := hc i (by rw [List.length_take]; omega)
            rw [HTN.out, Nat.zero_add] at h
            exact h
          clear hb7 hg7 ho7
          go_wp2_with fail
          go_roundw
          case rel => exact ⟨i + 1, by omega, by rw [HBW.out], HB7.out, HNE7.out, HE7, HD7⟩
          case measure => simp only [lenV]; omega
      · rcases hcase with ⟨u, hu, rfl⟩ | ⟨hu, z, rfl⟩
        · have hcase := hu
          obtain rfl : u = x := Option.some.inj (hu.symm.trans (HATi.out (by omega)))
          have hnb : ((n : Int) == 0) = false := by rw [beq_eq_false_iff_ne]; omega
          clear hn0
          have HB5 := Lib.hid (keptB HBD.out hg5 (fun k hk e => (HNE.out k hk).2 (by injection e with e; exact e.symm)) (fun k hk => by cases hk; exact hbB))
          have HE5 := Lib.hid (HEN.out.grown hg5)
          have HD5 := Lib.hid hd5
          have hB5 := HB5.out.2.size
          clear hg5 hd5 hcase hu HBD HEN HDA HFA
          have HA5 := Lib.hid (HB5.out.later (alloc_belowS w5 (.cells #[.string u] 9)))
          have HN1 : Hid ([Value.string u].length = 1 * 1) := Lib.hid rfl
          have HN2 : Hid (∀ y ∈ [Value.string u], y.oneCell' = true) := Lib.hid (fun y hy => by rw [List.mem_singleton.1 hy]; rfl)
          go_wp2_with (at_builtin; refine wpList_appM rfl (.tmp 33) (.tmp 35) rfl Tryz.underlying74 Tryz.infoStr rfl (by decide) rfl HA5.out rfl (Src.lit _) HN1.out HN2.out ?d1 ?d2 ?d3)
          case d1 => unfold maxLen; omega
          case d2 => omega
          intro v7 w7 hb7 hg7 ho7
          have HB7 : Hid (Bld 9 1 wB w7 v7 (i + 1) (strVals (L.take (i + 1)))) := Lib.hid (by
            rw [HTK.out, strVals_app]; exact hb7)
          have HG7 := Lib.hid ((World.grownBy_alloc w5 (.cells #[.string u] 9) (Value.slice go i co).ownBlock).trans hg7)
          have HE7 : Hid (EnvF w7 b p (k : Nat) a cap R) := Lib.hid (HE5.out.onto HRB.out HTB.out HB7.out.2 HG7.out (fun e => (HNE.out p e).1 rfl))
          have HD7 : Hid (DeadAt R k b w7) := Lib.hid (HD5.out.kept2 HG7.out (fun e => (HNE.out b e.symm).2 rfl))
          have HNE7 : Hid (NeB v7 p b) := Lib.hid (by
            rcases ho7 with h | h
            · intro k hk; exact HNE.out k (h ▸ hk)
            · intro k hk
              have e := Option.some.inj (h.symm.trans hk)
              have e2 : (w5.alloc (.cells #[.string u] 9)).heap.size = w5.heap.size + 1 := by simp
              have h1 := HE5.out.lt
              have h2 := HD5.out.lt
              omega)
          obtain ⟨g7, c7, rfl⟩ := owns_slot HB7.out.1 (by omega)
          have hc7 : w7.cell? ⟨g7, i, none⟩ = some (.string u) := by
            obtain ⟨b', off, e1, _, hc⟩ := (owns_strs1 HB7.out.1).cell (i := i) (by rw [List.length_take]; omega)
            cases e1
            have h := hc i (by rw [List.length_take]; omega)
            rw [HTN.out, Nat.zero_add] at h
            exact h
          clear hb7 hg7 ho7
          go_wp2_with fail
          go_roundw
          case rel => exact ⟨i + 1, by omega, by rw [HBW.out], HB7.out, HNE7.out, HE7, HD7⟩
          case measure => simp only [lenV]; omega
        · have h9 := HATi.out (by omega)
          rw [hu] at h9
          cases h9
    · obtain rfl : i = L.length := by omega
      have HF : Hid (RetSl 9 1 L.length (strVals L) wB (.returned (.slice go L.length co)) wr) := Lib.hid (by
        have h1 := HBD.out
        rw [List.take_length] at h1
        exact h1.ret)
      go_wp2_with fail
      go_ret
      exact HF.out
end Go.Proofs.YtggfhephdcnpcaaGreatDoor
namespace Go.Proofs.YtggfhephdcnpcaaGreatDoor
open Go.RowKit Go.Maps
set_option linter.unusedVariables false
theorem Tab10.lt {w : World} (h : Tab10 w) : 1 < w.heap.size := by
  have hg : Tryz.prog.globalNamed "internal/strconv.uint64pow10" = some 1 := by kernel_rfl
  unfold Tab10 Lib.TabIs World.var? at h
  rw [hg] at h
  simp only [Option.bind_some] at h
  rcases Nat.lt_or_ge 1 w.heap.size with h' | h'
  · exact h'
  · rw [Array.getElem?_eq_none h'] at h; simp at h
set_option maxRecDepth 100000 in
set_option maxHeartbeats 4000000 in
theorem implAllReduced_any (k : Int) (R : List RulD) (a : Option Addr) (cap : Nat) (w : World) (hl : RulesIn w a R) (hlen : R.length ≤ 2 ^ 40) (hz : SzR R) (ht : Tab10 w) :
    Calls Tryz.prog 105 #[.agg #[.int .i64 k, .slice a R.length cap]] w (RetAll k R w) := by
  have HL := Lib.hid hl
  have HT := Lib.hid ht
  have HS := Lib.hid (fun W h => implCountAll_any k R a cap W h hlen hz)
  have HLR := Lib.hid (fun W h => implLongestReduced_any k R a cap W h hlen hz)
  have HN := Lib.hid (fun W h => newReader2_any k R a cap W h hlen hz)
  have HA := Lib.hid (fun o => alloc_belowS w o)
  have hbx := alloc_at w (.cells #[.int .i64 k, .slice a R.length cap] 29)
  have HBX : Hid (∀ W2, Below (w.alloc (.cells #[.int .i64 k, .slice a R.length cap] 29)).heap.size (w.alloc (.cells #[.int .i64 k, .slice a R.length cap] 29)) W2 → W2.cell? ⟨w.heap.size, 0, none⟩ = some (.int .i64 k) ∧ W2.cell? ⟨w.heap.size, 1, none⟩ = some (.slice a R.length cap)) := Lib.hid (fun W2 hW2 => sys_cells ((hW2.block w.heap.size (by simp)).trans hbx))
  clear hl hz hbx ht
  go_enter Tryz.func105, Tryz.ntmps105
  go_wp2_with fail
  refine (HS.out _ (HL.out.later (HA.out _))).mono ?_
  rintro e w1 ⟨c, hcn, rfl, hb1⟩
  have HCN := Lib.hid hcn
  have HW1 := Lib.hid (Below.now (HA.out _) hb1)
  have HBX1 : Hid (∀ W2, Below w1.heap.size w1 W2 → W2.cell? ⟨w.heap.size, 0, none⟩ = some (.int .i64 k) ∧ W2.cell? ⟨w.heap.size, 1, none⟩ = some (.slice a R.length cap)) := Lib.hid (fun W2 hW2 => HBX.out W2 (Below.now hb1 hW2))
  have HR0 := Lib.hid (fun W => within_any c 0 256 W)
  clear hb1 HS HBX
  cases hb : inB c 0 256
  · have F : Hid (RetAll k R w (.returned (.tuple #[.slice none 0 0, .bool false])) w1) := Lib.hid (.inl ⟨fun ⟨c', h1, h2, h3⟩ => (by have := h1.uniq HCN.out; subst this; simp [inB] at hb; omega), rfl, HW1.out⟩)
    rw [hb] at HR0
    clear hb hcn
    go_wp2_with (go_at_call 86; refine (HR0.out _).mono ?_; rintro e w' ⟨rfl, rfl⟩)
    go_ret2
    exact F.out
  · have hb2 := inB_bounds hb
    rw [hb] at HR0
    clear hb
    obtain ⟨h, hlg, hcase⟩ := hcn
    rcases hcase with ⟨_, h1⟩ | ⟨h0, hc⟩
    · omega
    have HLG := Lib.hid hlg
    rcases hlg with ⟨_, h1⟩ | ⟨hsp, hh⟩
    · omega
    obtain ⟨_, h8, hk1, hk4⟩ := sys_sizes hsp
    obtain ⟨kn, rfl⟩ := Int.eq_ofNat_of_zero_le (show 0 ≤ k by omega)
    obtain ⟨hn, rfl⟩ := Int.eq_ofNat_of_zero_le h0
    have hG := sysG_of hsp
    have hh' : HtIs R kn ⟨#[]⟩ (hn : Int) := by simpa using hh
    have hps : pSum R kn (hn + 1) ≤ 256 := by simp at hc; omega
    have hge := pSum_ge hh' (hn + 1) (Nat.le_refl _)
    have hhn : hn ≤ 255 := by omega
    have HG := Lib.hid hG
    have HH := Lib.hid hh'
    have HPS := Lib.hid hps
    have HEX : Hid (∃ c, CntIs (kn : Int) R c ∧ 0 ≤ c ∧ c ≤ 256) := Lib.hid ⟨c, HCN.out, hb2.1, hb2.2⟩
    obtain ⟨N, hN⟩ : ∃ N, N = hn + 1 := ⟨_, rfl⟩
    have HNE := Lib.hid hN
    have hN6 : N ≤ 256 := by omega
    have HOT : Hid (∀ i, i ≤ N → (outTo R kn i).length ≤ 256) := Lib.hid (fun i hi => by
      rw [outTo_len hG.ne]; exact Nat.le_trans (pSum_mono R kn (show i ≤ hn + 1 by omega)) hps)
    have HPL : Hid (∀ i, i < N → (wordsF R kn i ⟨#[]⟩).length ≤ 256 ∧ 0 < (wordsF R kn i ⟨#[]⟩).length) := Lib.hid (fun i hi => by
      rw [wordsF_len hG.ne]
      refine ⟨Nat.le_trans (pSum_at R kn (show i < hn + 1 by omega)) hps, ?_⟩
      rcases hh' with ⟨h1, _⟩ | ⟨m, h1, h2, h3⟩
      · omega
      · by_cases h0 : paths R kn i ⟨#[]⟩ = 0
        · exact absurd (paths_zero_le h0 (by omega)) h2
        · omega)
    have HGR := Lib.hid (fun W h => growthA_any kn hn R a cap W h hlen hsp (by omega) (fun i hi => Nat.le_trans (pSum_at R kn (show i < hn + 1 by omega)) (by unfold topB; omega)))
    have HGL : Hid ((growL R kn hn).length = N) := Lib.hid (by rw [hN]; exact growL_len R kn hn)
    have HGA : Hid (∀ j, j < N → nthZ (growL R kn hn) j = (((wordsF R kn j ⟨#[]⟩).length : Nat) : Int)) := Lib.hid (fun j hj => by
      rw [nthZ_lt (by rw [growL_len]; omega), wordsF_len hG.ne]; simp [growL])
    clear hN hsp hh hh' hps hG h8 hc hb2 hge hk1 hk4
    go_wp2_with (go_at_call 86; refine (HR0.out _).mono ?_; rintro e w' ⟨rfl, rfl⟩)
    clear HR0
    obtain ⟨r0, r1⟩ := HBX1.out w1 (Below.refl _ _)
    go_upto_region 4 with fail
    go_cut [14, 15, 16] (fun v u z wx => ∃ ag cg, v = .slice ag (growL R kn hn).length cg ∧ u = .int .i64 ((growL R kn hn).length : Nat) ∧ z = .int .i64 0 ∧ IntsIn wx ag (growL R kn hn) ∧ Below w1.heap.size w1 wx)
    case first =>
      go_region_held3 (fun w' => w'.cell? ⟨w.heap.size, 0, none⟩ = some (.int .i64 (kn : Nat)) ∧ w'.cell? ⟨w.heap.size, 1, none⟩ = some (.slice a R.length cap)) (go_keep) (first
        | (go_at_call 37; refine (HLR.out _ (HL.out.later (Below.now HW1.out (by repeat (first | exact Below.refl _ _ | refine Below.drew ?_ | refine below_drewN ?_ _ | refine Below.alloc ?_ (by simp; try omega) _))))).mono ?_; rintro e w6 ⟨h6, hh6, rfl, hb6⟩; obtain rfl := hh6.uniq HLG.out; have K6 : Hid (Below w1.heap.size w1 w6) := Lib.hid (Below.now (by repeat (first | exact Below.refl _ _ | refine Below.drew ?_ | refine below_drewN ?_ _ | refine Below.alloc ?_ (by simp; try omega) _)) hb6); have t0 := (HBX1.out w6 K6.out).1; have t1 := (HBX1.out w6 K6.out).2; clear hb6 hh6)
        | (go_at_call 87; refine (HGR.out _ (HL.out.later (Below.now HW1.out (Below.now K6.out (by repeat (first | exact Below.refl _ _ | refine Below.drew ?_ | refine below_drewN ?_ _ | refine Below.alloc ?_ (by simp; try omega) _)))))).mono ?_; rintro e w7 ⟨a7, c7, rfl, ho7, hb7⟩; have K7 : Hid (Below w1.heap.size w1 w7) := Lib.hid (Below.now K6.out (Below.now (by repeat (first | exact Below.refl _ _ | refine Below.drew ?_ | refine below_drewN ?_ _ | refine Below.alloc ?_ (by simp; try omega) _)) hb7)); have I7 := Lib.hid (owns_ints ho7); have t2 := (HBX1.out w7 K7.out).1; have t3 := (HBX1.out w7 K7.out).2; clear hb7 ho7))
      all_goals
        go_wp2_with fail
        go_meet
        exact ⟨_, _, rfl, rfl, rfl, I7.out, K7.out⟩
    case rest =>
      obtain ⟨ag, cg, rfl, rfl, rfl, hin, hb2⟩ := hcut
      have HIN := Lib.hid hin
      have HW2 := Lib.hid (Below.now HW1.out hb2)
      have HBX2 : Hid (∀ W2, Below wc.heap.size wc W2 → W2.cell? ⟨w.heap.size, 0, none⟩ = some (.int .i64 (kn : Nat)) ∧ W2.cell? ⟨w.heap.size, 1, none⟩ = some (.slice a R.length cap)) := Lib.hid (fun W2 hW2 => HBX1.out W2 (Below.now hb2 hW2))
      have HB0 : Hid (Bld 9 1 wc wc (.slice none 0 0) (outTo R kn 0).length (strVals (outTo R kn 0))) := Lib.hid (Bld.nil 9 1 (Below.refl _ _))
      clear hin hb2 HBX1 HLR HGR r0 r1
      rw [HGL.out]
      have HIN2 : Hid (∀ W, Below wc.heap.size wc W → ∀ j, j < N → ∃ b off, ag = some ⟨b, off, none⟩ ∧ b < wc.heap.size ∧ W.cell? ⟨b, off + j, none⟩ = some (.int .i64 ((wordsF R kn j ⟨#[]⟩).length : Nat))) := Lib.hid (fun W hW j hj => by
        obtain ⟨b, off, e1, hb, hc⟩ := (HIN.out.later hW).cell (i := j) (by rw [HGL.out]; exact hj)
        obtain ⟨b', off', e2, hb', _⟩ := HIN.out.cell (i := j) (by rw [HGL.out]; exact hj)
        have e3 := e1.symm.trans e2
        cases e3
        have h1 := hc j (by rw [HGL.out]; exact hj)
        rw [HGA.out j hj] at h1
        exact ⟨b, off, e1, hb', h1⟩)
      clear HIN
      go_wp2_with fail
      go_loopw [4, 16] (fun vo vi wr => ∃ i : Nat, i ≤ N ∧ vi = .int .i64 (i : Nat) ∧ Bld 9 1 wc wr vo (outTo R kn i).length (strVals (outTo R kn i))) (fun _ vi _ => N - (intOf vi).toNat)
      case atStart => exact ⟨0, Nat.zero_le _, rfl, HB0.out⟩
      case round =>
        clear HB0
        obtain ⟨i, hi, rfl, hbd⟩ := hrel
        obtain ⟨ao, co, rfl⟩ := owns_form hbd.1
        have HB := Lib.hid hbd
        have hol := HOT.out i hi
        clear hbd
        by_cases hlt : i < N
        · obtain ⟨b0, off, rfl, hb0, hc0⟩ := HIN2.out wr HB.out.2 i hlt
          obtain ⟨s0, s1⟩ := HBX2.out wr HB.out.2
          obtain ⟨hL1, hL2⟩ := HPL.out i hlt
          have HNR := Lib.hid (HN.out wr (HL.out.later (Below.now HW2.out HB.out.2)))
          have HWD := Lib.hid (fun b p W => words_any kn i R b p a cap wr W (by omega) hlen HG.out hL1 (HL.out.later (Below.now HW2.out HB.out.2)) (HT.out.later (Below.now HW2.out HB.out.2)))
          have hos := outTo_succ R kn i
          have hon := HOT.out (i + 1) (by omega)
          have HLR2 : Hid (R = [] ∨ ∀ x, a = some x → x.block < wr.heap.size) := Lib.hid (by
            by_cases hR : R = []
            · exact .inl hR
            · obtain ⟨b', off', e1, hb', _⟩ := (HL.out.later (Below.now HW2.out HB.out.2)).cell (i := 0) (List.length_pos_iff.2 hR)
              exact .inr fun x hx => by rw [e1] at hx; cases hx; exact hb')
          rw [hos, List.length_append] at hon
          have HOS := Lib.hid hos
          clear hos
          generalize wordsF R kn i ⟨#[]⟩ = L at *
          go_wp2_with fail
          refine HNR.out.mono ?_
          rintro e2 w2 ⟨p, b, rfl, hrd, hmp, hom, hp, hbb, hne, hb2⟩
          have HB2 := Lib.hid hb2
          have HEN : Hid (EnvF w2 b p (kn : Nat) a cap R) := Lib.hid ⟨hrd, hmp, HL.out.later (Below.now HW2.out (Below.now HB.out.2 hb2)), HT.out.later (Below.now HW2.out (Below.now HB.out.2 hb2)), ⟨Ne.symm hne, by have := HT.out.lt; have h1 := HW2.out.size; have h2 := HB.out.2.size; omega⟩, by
            rcases HLR2.out with h | h
            · exact .inl h
            · exact .inr fun x hx => by have := h x hx; omega⟩
          have HDA : Hid (DeadAt R kn b w2) := Lib.hid ⟨0, .map [], hom, DMap.start R kn⟩
          clear hrd hmp hom hb2 hne HNR s0 s1 hc0
          go_wp2_with fail
          refine (HWD.out b p w2 HB2.out hbb HEN.out HDA.out).mono ?_
          rintro e3 w3 ⟨aw, cw, rfl, how, hb3⟩
          have HST := Lib.hid (owns_strs1 how)
          have HSR : Hid (Src w3 (.slice aw L.length cw) L.length (strVals L)) := Lib.hid (by
            cases aw with
            | none =>
              obtain ⟨_, _, hb, _⟩ := HST.out.cell hL2
              cases hb
            | some x => exact Src.of_cells HST.out)
          have HN1 : Hid ((strVals L).length = L.length * 1) := Lib.hid (by rw [strVals_length]; omega)
          have HN2 : Hid (∀ u ∈ strVals L, u.oneCell' = true) := Lib.hid (fun u hu => by
            obtain ⟨_, _, rfl⟩ := List.mem_map.1 hu; rfl)
          have HB3 := Lib.hid (HB.out.later hb3)
          clear how hb3 HEN HDA HB2 HB HWD hp hbb
          go_wp2_with (at_builtin; refine wpList_appM rfl (.tmp 21) (.tmp 26) rfl Tryz.underlying74 Tryz.infoStr rfl (by decide) rfl HB3.out rfl HSR.out HN1.out HN2.out ?a1 ?a2 ?a3)
          case a1 => unfold maxLen; omega
          case a2 => omega
          intro v4 w4 hb4 hg4 ho4
          have HB4 : Hid (Bld 9 1 wc w4 v4 (outTo R kn (i + 1)).length (strVals (outTo R kn (i + 1)))) := Lib.hid (by
            rw [HOS.out, List.length_append, strVals_app]; exact hb4)
          obtain ⟨a4, c4, hv4⟩ := owns_form HB4.out.1
          subst hv4
          clear hb4 hg4 ho4
          go_wp2_with fail
          go_roundw
          case rel => exact ⟨i + 1, by omega, by go_num, HB4.out⟩
          case measure => simp [intOf]; omega
        · obtain rfl : i = N := by omega
          have F : Hid (RetAll (kn : Int) R w (.returned (.tuple #[.slice ao (outTo R kn i).length co, .bool true])) wr) := Lib.hid (by
            obtain rfl := HNE.out
            exact .inr ⟨kn, hn, rfl, HG.out, HH.out, HPS.out, HEX.out, ao, co, rfl, owns_mono HB.out.1 HW2.out.size, Below.now HW2.out HB.out.2⟩)
          go_wp2_with fail
          go_ret2
          exact F.out
end Go.Proofs.YtggfhephdcnpcaaGreatDoor
