/-
  The reduced words of a length, by the program.
-/
import Derived.Test.YtlldhmoiahcfpaaDoorGrp33
import Derived.Test.YtlldhmoiahcfpaaDoorGrp39
import Derived.Test.YtlldhmoiahcfpaaDoorGrp21
namespace Go.Proofs.YtlldhmoiahcfpaaDoor
open Go.RowKit Go.Maps
set_option linter.unusedVariables false
/-- the bound behind i words -/
def bndW (L : List ByteArray) : Nat → ByteArray
  | 0 => ⟨#[]⟩
  | i + 1 => nthS L i
theorem ltB_irr (a : ByteArray) : ltB a a = false := by
  unfold ltB
  rw [← gt_less]
  simp
theorem ltB_asymm {a b : ByteArray} (h : ltB a b = true) : ltB b a = false := by
  unfold ltB at *
  rw [← gt_less, h]
  rfl
theorem nthS_get {L : List ByteArray} {i : Nat} (h : i < L.length) : nthS L i = L[i] := by
  unfold nthS; rw [List.getD_eq_getElem?_getD, List.getElem?_eq_getElem h]; rfl
/-- in a rising list, the first one above one is the next one -/
theorem rise_next {L : List ByteArray} (hp : L.Pairwise (fun a b => ltB a b = true)) {i : Nat} (hi : i + 1 < L.length) : (L.find? fun u => ltB (nthS L i) u) = some (nthS L (i + 1)) := by
  rw [List.pairwise_iff_getElem] at hp
  rw [List.find?_eq_some_iff_getElem]
  rw [nthS_get hi, nthS_get (show i < L.length by omega)]
  refine ⟨hp i (i + 1) (by omega) hi (by omega), i + 1, hi, rfl, fun j hj => ?_⟩
  by_cases e : j = i
  · subst e
    rw [ltB_irr]; rfl
  · rw [ltB_asymm (hp j i (by omega) (by omega) (by omega))]; rfl
theorem firstF_at {R : List RulD} {k n : Nat} (hk : k ≤ 4) (hn : 0 < n) {i : Nat} (hi : i < (wordsF R k n ⟨#[]⟩).length) : firstF R k (bndW (wordsF R k n ⟨#[]⟩) i) n ⟨#[]⟩ = some (nthS (wordsF R k n ⟨#[]⟩) i) := by
  cases i with
  | succ i => exact rise_next (wordsF_rise hk n ⟨#[]⟩) hi
  | zero =>
    unfold firstF
    rw [List.find?_eq_some_iff_getElem, nthS_get hi]
    refine ⟨?_, 0, hi, rfl, fun j hj => by omega⟩
    have hs := wordsF_size R k n ⟨#[]⟩ _ (List.getElem_mem hi)
    have h0 : (⟨#[]⟩ : ByteArray).size = 0 := rfl
    have hsz : ∀ z : ByteArray, z.data.toList.length = z.size := fun z => rfl
    show Op.bytesLess [] _ = true
    refine less_nil fun e => ?_
    have h1 := hsz (wordsF R k n ⟨#[]⟩)[0]
    rw [e] at h1
    simp only [List.length_nil] at h1
    omega
theorem bndW_size {R : List RulD} {k n : Nat} {i : Nat} (hi : i ≤ (wordsF R k n ⟨#[]⟩).length) : (bndW (wordsF R k n ⟨#[]⟩) i).size = 0 ∨ (bndW (wordsF R k n ⟨#[]⟩) i).size = n := by
  cases i with
  | zero => exact .inl rfl
  | succ i =>
    right
    show (nthS _ i).size = n
    rw [nthS_get (show i < _ by omega)]
    have hs := wordsF_size R k n ⟨#[]⟩ _ (List.getElem_mem (show i < _ by omega))
    have h0 : (⟨#[]⟩ : ByteArray).size = 0 := rfl
    omega
theorem EnvF.onto {wB W W' : World} {b p : Nat} {k : Int} {a : Option Addr} {cap : Nat} {R : List RulD} {own : Option Nat} (h : EnvF W b p k a cap R) (hr : RulesIn wB a R) (ht : Tab10 wB) (hb : Below wB.heap.size wB W') (hg : W.grownBy W' own) (hne : own ≠ some p) : EnvF W' b p k a cap R := by
  obtain ⟨r1, r2, r3⟩ := h.rd
  have hn : ∀ o, some (⟨p, o, none⟩ : Addr).block ≠ own := fun o e => hne e.symm
  exact ⟨⟨hg.cell r1 (hn 0), hg.cell r2 (hn 1), hg.cell r3 (hn 2)⟩, hg.cell h.mp (hn 3), hr.later hb, ht.later hb, h.ne⟩
theorem EnvF.lt {W : World} {b p : Nat} {k : Int} {a : Option Addr} {cap : Nat} {R : List RulD} (h : EnvF W b p k a cap R) : p < W.heap.size := World.block_lt_of_cell? W ⟨p, 0, none⟩ h.rd.1
theorem DeadAt.lt {R : List RulD} {k b : Nat} {W : World} (h : DeadAt R k b W) : b < W.heap.size := by obtain ⟨_, _, h1, _⟩ := h; exact h1.lt
theorem DeadAt.kept2 {R : List RulD} {k b : Nat} {W W' : World} {own : Option Nat} (h : DeadAt R k b W) (hg : W.grownBy W' own) (hne : some b ≠ own) : DeadAt R k b W' := by
  obtain ⟨m, D, h1, h2⟩ := h
  exact ⟨m, D, h1.kept hg hne, h2⟩
/-- a row lies apart from the reader and its map -/
def NeB (v : Value) (p b : Nat) : Prop := ∀ k, v.ownBlock = some k → k ≠ p ∧ k ≠ b
theorem owns_strs1 {w : World} {base : Nat} {T : TypeId} {a : Option Addr} {n m cap : Nat} {l : List ByteArray} (h : w.ownsRow base T 1 (.slice a m cap) n (strVals l)) : StrsIn w a l := owns_cells h
theorem take_nth {L : List ByteArray} {i : Nat} (h : i < L.length) : L.take (i + 1) = L.take i ++ [nthS L i] := by
  rw [List.take_succ_eq_append_getElem h, nthS_get h]
theorem nth_take {L : List ByteArray} {i : Nat} (h : i < L.length) : nthS (L.take (i + 1)) i = nthS L i := by
  rw [nthS_get (by rw [List.length_take]; omega), nthS_get h, List.getElem_take]
set_option maxRecDepth 100000 in
set_option maxHeartbeats 4000000 in
theorem words_any (k n : Nat) (R : List RulD) (b p : Nat) (a : Option Addr) (cap : Nat) (wB w : World) (hn3 : n ≤ 300) (hlen : R.length ≤ 2 ^ 40) (G : SysG R k) (hL : (wordsF R k n ⟨#[]⟩).length ≤ 256) (hr : RulesIn wB a R) (ht : Tab10 wB) (hbw : Below wB.heap.size wB w) (hbB : wB.heap.size ≤ b) (hen : EnvF w b p (k : Nat) a cap R) (hda : DeadAt R k b w) :
    Calls Tryd.prog 31 #[.pointer (some ⟨p, 0, none⟩), .int .i64 (n : Nat), .int .i64 ((wordsF R k n ⟨#[]⟩).length : Nat)] w (RetSl 9 1 (wordsF R k n ⟨#[]⟩).length (strVals (wordsF R k n ⟨#[]⟩)) wB) := by
  have HRB := Lib.hid hr
  have HTB := Lib.hid ht
  have HEN0 := Lib.hid hen
  have HDA0 := Lib.hid hda
  have HFA0 := Lib.hid (fun bound W => firstAbove_any k R b p a cap bound n hn3 hlen G n ⟨#[]⟩ W)
  have HAT := Lib.hid (fun i => firstF_at (R := R) (n := n) (i := i) G.k4)
  have HBS := Lib.hid (fun i => bndW_size (R := R) (k := k) (n := n) (i := i))
  have HZ : Hid (n = 0 → wordsF R k n ⟨#[]⟩ = [⟨#[]⟩]) := Lib.hid (fun h => by rw [h]; rfl)
  have HB0 := Lib.hid (Bld.nil 9 1 hbw)
  generalize hLe : wordsF R k n ⟨#[]⟩ = L at *
  clear hr ht hen hda hbw hLe
  go_enter Tryd.func31, Tryd.ntmps31
  go_wp2_with fail
  go_loopw [7, 8] (fun vo vb wr => ∃ i : Nat, i ≤ L.length ∧ vb = .string (bndW L i) ∧ Bld 9 1 wB wr vo i (strVals (L.take i)) ∧ NeB vo p b ∧ Hid (EnvF wr b p (k : Nat) a cap R) ∧ Hid (DeadAt R k b wr)) (fun vo _ _ => L.length - lenV vo)
  case atStart => exact ⟨0, Nat.zero_le _, rfl, HB0.out, fun k hk => (by cases hk), HEN0, HDA0⟩
  case round =>
    clear HB0 HEN0 HDA0
    obtain ⟨i, hi, rfl, hbd, hne, HEN, HDA⟩ := hrel
    obtain ⟨go, co, rfl⟩ := owns_form hbd.1
    have HBD := Lib.hid hbd
    have HNE : Hid (NeB (.slice go i co) p b) := Lib.hid hne
    clear hbd hne
    by_cases hlt : i < L.length
    · have HBW : Hid (bndW L (i + 1) = nthS L i) := Lib.hid rfl
      have HTK := Lib.hid (take_nth hlt)
      have HTN := Lib.hid (nth_take hlt)
      have HFA := Lib.hid (HFA0.out (bndW L i) wr (Nat.zero_add n) (HBS.out i hi) (fun y hy => by cases hy) HEN.out HDA.out)
      have HATi := Lib.hid (fun h => HAT.out i h hlt)
      have HZ2 : Hid (n = 0 → nthS L i = ⟨#[]⟩) := Lib.hid (fun h => by
        have h1 := HZ.out h
        have h2 : i = 0 := by rw [h1] at hlt; simpa using hlt
        rw [h1, h2]; rfl)
      generalize bndW L i = bd at *
      generalize nthS L i = x at *
      generalize hlL : L.length = lL at *
      go_wp2_with fail
      refine HFA.out.mono ?_
      rintro e5 w5 ⟨hg5, hd5, hcase⟩
      by_cases hn0 : n = 0
      · obtain rfl : x = ⟨#[]⟩ := HZ2.out hn0
        have hnb : ((n : Int) == 0) = true := by rw [hn0]; rfl
        clear hn0 hn3
        rcases hcase with ⟨u, hu, rfl⟩ | ⟨hu, z, rfl⟩
        · have hcase := hu
          have HB5 := Lib.hid (keptB HBD.out hg5 (fun k hk e => (HNE.out k hk).2 (by injection e with e; exact e.symm)) (fun k hk => by cases hk; exact hbB))
          have HE5 := Lib.hid (HEN.out.grown hg5)
          have HD5 := Lib.hid hd5
          have hB5 := HB5.out.2.size
          clear hg5 hd5 hcase hu HBD HEN HDA HFA
          have HA5 := Lib.hid (HB5.out.later (alloc_belowS w5 (.cells #[.string ⟨#[]⟩] 9)))
          have HN1 : Hid ([Value.string ⟨#[]⟩].length = 1 * 1) := Lib.hid rfl
          have HN2 : Hid (∀ y ∈ [Value.string ⟨#[]⟩], y.oneCell' = true) := Lib.hid (fun y hy => by rw [List.mem_singleton.1 hy]; rfl)
          go_wp2_with (at_builtin; refine wpList_appM rfl (.tmp 33) (.tmp 35) rfl Tryd.underlying33 Tryd.infoStr rfl (by decide) rfl HA5.out rfl (Src.lit _) HN1.out HN2.out ?b1 ?b2 ?b3)
          case b1 => unfold maxLen; omega
          case b2 => omega
          intro v7 w7 hb7 hg7 ho7
          have HB7 : Hid (Bld 9 1 wB w7 v7 (i + 1) (strVals (L.take (i + 1)))) := Lib.hid (by
            rw [HTK.out, strVals_app]; exact hb7)
          have HG7 := Lib.hid ((World.grownBy_alloc w5 (.cells #[.string ⟨#[]⟩] 9) (Value.slice go i co).ownBlock).trans hg7)
          have HE7 : Hid (EnvF w7 b p (k : Nat) a cap R) := Lib.hid (HE5.out.onto HRB.out HTB.out HB7.out.2 HG7.out (fun e => (HNE.out p e).1 rfl))
          have HD7 : Hid (DeadAt R k b w7) := Lib.hid (HD5.out.kept2 HG7.out (fun e => (HNE.out b e.symm).2 rfl))
          have HNE7 : Hid (NeB v7 p b) := Lib.hid (by
            rcases ho7 with h | h
            · intro k hk; exact HNE.out k (h ▸ hk)
            · intro k hk
              have e := Option.some.inj (h.symm.trans hk)
              have e2 : (w5.alloc (.cells #[.string ⟨#[]⟩] 9)).heap.size = w5.heap.size + 1 := by simp
              have h1 := HE5.out.lt
              have h2 := HD5.out.lt
              omega)
          obtain ⟨g7, c7, rfl⟩ := owns_slot HB7.out.1 (by omega)
          have hc7 : w7.cell? ⟨g7, i, none⟩ = some (.string ⟨#[]⟩) := by
            obtain ⟨b', off, e1, _, hc⟩ := (owns_strs1 HB7.out.1).cell (i := i) (by rw [List.length_take]; omega)
            cases e1
            have h := hc i (by rw [List.length_take]; omega)
            rw [HTN.out, Nat.zero_add] at h
            exact h
          clear hb7 hg7 ho7
          go_wp2_with fail
          go_roundw
          case rel => exact ⟨i + 1, by omega, by rw [HBW.out], HB7.out, HNE7.out, HE7, HD7⟩
          case measure => simp only [lenV]; omega
        · have hcase := hu
          have HB5 := Lib.hid (keptB HBD.out hg5 (fun k hk e => (HNE.out k hk).2 (by injection e with e; exact e.symm)) (fun k hk => by cases hk; exact hbB))
          have HE5 := Lib.hid (HEN.out.grown hg5)
          have HD5 := Lib.hid hd5
          have hB5 := HB5.out.2.size
          clear hg5 hd5 hcase hu HBD HEN HDA HFA
          have HA5 := Lib.hid (HB5.out.later (alloc_belowS w5 (.cells #[.string ⟨#[]⟩] 9)))
          have HN1 : Hid ([Value.string ⟨#[]⟩].length = 1 * 1) := Lib.hid rfl
          have HN2 : Hid (∀ y ∈ [Value.string ⟨#[]⟩], y.oneCell' = true) := Lib.hid (fun y hy => by rw [List.mem_singleton.1 hy]; rfl)
          go_wp2_with (at_builtin; refine wpList_appM rfl (.tmp 33) (.tmp 35) rfl Tryd.underlying33 Tryd.infoStr rfl (by decide) rfl HA5.out rfl (Src.lit _) HN1.out HN2.out ?c1 ?c2 ?c3)
          case c1 => unfold maxLen; omega
          case c2 => omega
          intro v7 w7 hb7 hg7 ho7
          have HB7 : Hid (Bld 9 1 wB w7 v7 (i + 1) (strVals (L.take (i + 1)))) := Lib.hid (by
            rw [HTK.out, strVals_app]; exact hb7)
          have HG7 := Lib.hid ((World.grownBy_alloc w5 (.cells #[.string ⟨#[]⟩] 9) (Value.slice go i co).ownBlock).trans hg7)
          have HE7 : Hid (EnvF w7 b p (k : Nat) a cap R) := Lib.hid (HE5.out.onto HRB.out HTB.out HB7.out.2 HG7.out (fun e => (HNE.out p e).1 rfl))
          have HD7 : Hid (DeadAt R k b w7) := Lib.hid (HD5.out.kept2 HG7.out (fun e => (HNE.out b e.symm).2 rfl))
          have HNE7 : Hid (NeB v7 p b) := Lib.hid (by
            rcases ho7 with h | h
            · intro k hk; exact HNE.out k (h ▸ hk)
            · intro k hk
              have e := Option.some.inj (h.symm.trans hk)
              have e2 : (w5.alloc (.cells #[.string ⟨#[]⟩] 9)).heap.size = w5.heap.size + 1 := by simp
              have h1 := HE5.out.lt
              have h2 := HD5.out.lt
              omega)
          obtain ⟨g7, c7, rfl⟩ := owns_slot HB7.out.1 (by omega)
          have hc7 : w7.cell? ⟨g7, i, none⟩ = some (.string ⟨#[]⟩) := by
            obtain ⟨b', off, e1, _, hc⟩ := (owns_strs1 HB7.out.1).cell (i := i) (by rw [List.length_take]; omega)
            cases e1
            have h := hc i (by rw [List.length_take]; omega)
            rw [HTN.out, Nat.zero_add] at h
            exact h
          clear hb7 hg7 ho7
          go_wp2_with fail
          go_roundw
          case rel => exact ⟨i + 1, by omega, by rw [HBW.out], HB7.out, HNE7.out, HE7, HD7⟩
          case measure => simp only [lenV]; omega
      · rcases hcase with ⟨u, hu, rfl⟩ | ⟨hu, z, rfl⟩
        · have hcase := hu
          obtain rfl : u = x := Option.some.inj (hu.symm.trans (HATi.out (by omega)))
          have hnb : ((n : Int) == 0) = false := by rw [beq_eq_false_iff_ne]; omega
          clear hn0
          have HB5 := Lib.hid (keptB HBD.out hg5 (fun k hk e => (HNE.out k hk).2 (by injection e with e; exact e.symm)) (fun k hk => by cases hk; exact hbB))
          have HE5 := Lib.hid (HEN.out.grown hg5)
          have HD5 := Lib.hid hd5
          have hB5 := HB5.out.2.size
          clear hg5 hd5 hcase hu HBD HEN HDA HFA
          have HA5 := Lib.hid (HB5.out.later (alloc_belowS w5 (.cells #[.string u] 9)))
          have HN1 : Hid ([Value.string u].length = 1 * 1) := Lib.hid rfl
          have HN2 : Hid (∀ y ∈ [Value.string u], y.oneCell' = true) := Lib.hid (fun y hy => by rw [List.mem_singleton.1 hy]; rfl)
          go_wp2_with (at_builtin; refine wpList_appM rfl (.tmp 33) (.tmp 35) rfl Tryd.underlying33 Tryd.infoStr rfl (by decide) rfl HA5.out rfl (Src.lit _) HN1.out HN2.out ?d1 ?d2 ?d3)
          case d1 => unfold maxLen; omega
          case d2 => omega
          intro v7 w7 hb7 hg7 ho7
          have HB7 : Hid (Bld 9 1 wB w7 v7 (i + 1) (strVals (L.take (i + 1)))) := Lib.hid (by
            rw [HTK.out, strVals_app]; exact hb7)
          have HG7 := Lib.hid ((World.grownBy_alloc w5 (.cells #[.string u] 9) (Value.slice go i co).ownBlock).trans hg7)
          have HE7 : Hid (EnvF w7 b p (k : Nat) a cap R) := Lib.hid (HE5.out.onto HRB.out HTB.out HB7.out.2 HG7.out (fun e => (HNE.out p e).1 rfl))
          have HD7 : Hid (DeadAt R k b w7) := Lib.hid (HD5.out.kept2 HG7.out (fun e => (HNE.out b e.symm).2 rfl))
          have HNE7 : Hid (NeB v7 p b) := Lib.hid (by
            rcases ho7 with h | h
            · intro k hk; exact HNE.out k (h ▸ hk)
            · intro k hk
              have e := Option.some.inj (h.symm.trans hk)
              have e2 : (w5.alloc (.cells #[.string u] 9)).heap.size = w5.heap.size + 1 := by simp
              have h1 := HE5.out.lt
              have h2 := HD5.out.lt
              omega)
          obtain ⟨g7, c7, rfl⟩ := owns_slot HB7.out.1 (by omega)
          have hc7 : w7.cell? ⟨g7, i, none⟩ = some (.string u) := by
            obtain ⟨b', off, e1, _, hc⟩ := (owns_strs1 HB7.out.1).cell (i := i) (by rw [List.length_take]; omega)
            cases e1
            have h := hc i (by rw [List.length_take]; omega)
            rw [HTN.out, Nat.zero_add] at h
            exact h
          clear hb7 hg7 ho7
          go_wp2_with fail
          go_roundw
          case rel => exact ⟨i + 1, by omega, by rw [HBW.out], HB7.out, HNE7.out, HE7, HD7⟩
          case measure => simp only [lenV]; omega
        · have h9 := HATi.out (by omega)
          rw [hu] at h9
          cases h9
    · obtain rfl : i = L.length := by omega
      have HF : Hid (RetSl 9 1 L.length (strVals L) wB (.returned (.slice go L.length co)) wr) := Lib.hid (by
        have h1 := HBD.out
        rw [List.take_length] at h1
        exact h1.ret)
      go_wp2_with fail
      go_ret
      exact HF.out
end Go.Proofs.YtlldhmoiahcfpaaDoor
