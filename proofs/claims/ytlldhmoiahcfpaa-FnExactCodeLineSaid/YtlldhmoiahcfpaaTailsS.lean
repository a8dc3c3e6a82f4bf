/-
  TailsOf and IsCode of the reference.
-/
import Derived.Test.YtlldhmoiahcfpaaTailsRun
namespace Go.Proofs.Ytlldhmoiahcfpaa
open Go.RowKit
set_option linter.unusedVariables false
/-- the state of TailsOf's loop -/
def StT (l : List ByteArray) (w : World) (v s : Value) (wr : World) : Prop :=
  ∃ out S vs g cap ad c2, v = .slice (some ⟨g, 0, none⟩) out.length cap ∧ s = .slice (some ad) S.length c2 ∧ FreshT l out ∧ ComesT l out S ∧ SetsIn wr (fun b => b ≠ g ∧ b < wr.heap.size) vs out.reverse ∧ Bld 22 1 w wr v out.length vs ∧ StrsIn wr (some ad) S ∧ S.length ≤ c2 ∧ ad.block ≠ g
theorem nodup_code {l : List ByteArray} {out : List (List ByteArray)} {S : List ByteArray} (hf : FreshT l out) (hc : ComesT l out S) (h0 : S ≠ []) (hn : ∀ i, i < out.length → nthL out.reverse i ≠ S) : FreshT l (S :: out) :=
  ⟨hf, hc, h0, fun hm => by
    obtain ⟨i, hi, he⟩ := mem_nthL (List.mem_reverse.2 hm)
    exact hn i (by simpa using hi) he⟩
set_option maxRecDepth 20000 in
set_option maxHeartbeats 2000000 in
theorem specTailsOf_any (l : List ByteArray) (a : Option Addr) (cap : Nat) (w : World) (hl : StrsIn w a l) (hlen : l.length ≤ 2 ^ 40) (hcap : l.length ≤ cap) (hsz : ∀ j, j < l.length → (nthS l j).size ≤ maxLen) :
    Calls Try.prog 20 #[.slice a l.length cap] w (RetTails l w) := by
  have HL := Lib.hid hl
  have HOK := Lib.hid (specListOk_any l a cap w hl hlen hcap hsz)
  clear hl hsz
  go_enter Try.func20, Try.ntmps20
  go_wp2_with fail
  refine HOK.out.mono ?_
  rintro e w1 ⟨bb, hbb, rfl, hb1⟩
  have HBB := Lib.hid hbb
  have HB1 := Lib.hid hb1
  clear hbb hb1 HOK
  cases bb
  · have F : Hid (RetTails l w (.returned (.slice none 0 0)) w1) := Lib.hid (.inl ⟨fun h => (by have := HBB.out.2 h; cases this), rfl, HB1.out⟩)
    go_wp2_with fail
    go_ret
    exact F.out
  · have HLP : Hid (listP l) := Lib.hid (HBB.out.1 rfl)
    have HK := Lib.hid (LOk.of HLP.out)
    have HBE := Lib.hid (Bld.empty 22 1 w1)
    have hl8 := HK.out.hi
    have HF := Lib.hid (fun W h => l22First_any l a cap W h HK.out)
    go_wp2_with fail
    refine (HF.out _ (HL.out.later (Below.now HB1.out HBE.out.2))).mono ?_
    rintro e w2 ⟨q, ad, c2, rfl, hs, hm, hi, hc, hb2, hadw⟩
    have hne : ad.block ≠ w1.heap.size := by have h1 : (w1.alloc (.cells #[] 22)).heap.size = w1.heap.size + 1 := by simp
                                             omega
    have HST : Hid (StT l w (.slice (some ⟨w1.heap.size, 0, none⟩) 0 0) (.slice (some ad) q.length c2) w2) := Lib.hid
      ⟨[], q, [], _, _, ad, c2, rfl, rfl, trivial, ⟨hs, hm⟩, SetsIn.nil _ _, (HBE.out.later hb2).since HB1.out, hi, hc, hne⟩
    clear hs hm hi hc hb2 hadw hne HF HBE
    go_wp2_with fail
    go_loopw [3, 4] (fun v s wr => StT l w v s wr) (fun v _ _ => 2199023255553 - lenOf v)
    case atStart => exact HST.out
    case round =>
      clear HST HB1 HBB
      obtain ⟨out, S, vs, g, oc, ad, c2, rfl, rfl, hf, hco, hsi, hbd, hst, hsc, hadg⟩ := hrel
      have HF := Lib.hid hf
      have HC := Lib.hid hco
      have HSI := Lib.hid hsi
      have HB := Lib.hid hbd
      have HS := Lib.hid hst
      have hol := freshT_len HK.out hf
      have HSS := Lib.hid (comesT_suf HK.out hf hco)
      have hS41 := HK.out.set HSS.out.1.nodup HSS.out.2
      clear hf hco hsi hbd hst
      rcases Nat.eq_zero_or_pos S.length with h0 | h0
      · have F : Hid (RetTails l w (.returned (.slice (some ⟨g, 0, none⟩) out.length oc)) wr) := Lib.hid (.inr ⟨HLP.out, out, S, vs, _, _, HF.out, ⟨HC.out, .inl (List.eq_nil_of_length_eq_zero h0)⟩, HSI.out.weak (fun _ _ => trivial), rfl, HB.out.1, HB.out.2⟩)
        have n1 : (decide (0 < (S.length : Int))) = false := decide_eq_false (by omega)
        go_wp2_with fail
        go_ret
        exact F.out
      · have HS0 : Hid (S ≠ []) := Lib.hid (fun h => by rw [h] at h0; simp at h0)
        go_wp2_with fail
        generalize hW : wr = wr0 at *
        clear hW
        go_loopw [21] (fun i wr => ∃ j : Nat, j ≤ out.length ∧ i = .int .i64 (j : Nat) ∧ Hid (∀ i', i' < j → nthL out.reverse i' ≠ S) ∧ Below wr0.heap.size wr0 wr) (fun i _ => out.length - (intOf i).toNat)
        case atStart => exact ⟨0, Nat.zero_le _, rfl, Lib.hid (fun i' h => absurd h (Nat.not_lt_zero _)), Below.refl _ _⟩
        case round =>
          obtain ⟨j, hj, rfl, hno, hbw⟩ := hrel
          have HBW := Lib.hid hbw
          clear hbw
          by_cases hlt : j < out.length
          · obtain ⟨adj, cj, hv1, hv2, hv3, hv4⟩ := HSI.out.2 j (by simpa using hlt)
            have c1 : wr.cell? ⟨g, j, none⟩ = some (.slice (some adj) (nthL out.reverse j).length cj) := by
              rw [HBW.out.cell (p := ⟨g, j, none⟩) (World.block_lt_of_cell? wr0 ⟨g, j, none⟩ (by rw [World.ownsRow.cellAt HB.out.1 j (by omega)]; exact hv1)), World.ownsRow.cellAt HB.out.1 j (by omega)]
              exact hv1
            have HV2 := Lib.hid hv2
            have hx41 : (nthL out.reverse j).length ≤ 41 := by
              have h := (freshT_all HK.out HF.out).2 (nthL out.reverse j) (List.mem_reverse.1 (nthL_mem (by simpa using hlt)))
              exact HK.out.set h.1.nodup h.2
            have HNO : Hid (nthL out.reverse j ≠ S → ∀ i', i' < j + 1 → nthL out.reverse i' ≠ S) := Lib.hid (fun h i' hi' => by
              by_cases e : i' = j
              · rw [e]; exact h
              · exact hno.out i' (by omega))
            have HMEM : Hid (nthL out.reverse j = S → S ∈ out) := Lib.hid (fun h => by rw [← h]; exact List.mem_reverse.1 (nthL_mem (by simpa using hlt)))
            clear hv1 hv2 hv4
            generalize nthL out.reverse j = x at *
            have HSM := Lib.hid (fun W h1 h2 => l22Same_any x S (some adj) (some ad) cj c2 W h1 h2 (by omega) (by omega))
            go_wp2_with fail
            refine (HSM.out _ (HV2.out.later HBW.out) (HS.out.later HBW.out)).mono ?_
            rintro e w3 ⟨b3, hb3, rfl, hb33⟩
            have HB3 := Lib.hid hb3
            have HW3 := Lib.hid (Below.now HBW.out hb33)
            clear hb3 hb33 HSM
            cases b3
            · have F := Lib.hid (HNO.out (fun h => by have := HB3.out.2 h; cases this))
              go_wp2_with fail
              go_roundw
              case rel => exact ⟨j + 1, by omega, by go_num, F, HW3.out⟩
              case measure => simp [intOf]; omega
            · have F : Hid (RetTails l w (.returned (.slice (some ⟨g, 0, none⟩) out.length oc)) w3) := Lib.hid (.inr ⟨HLP.out, out, S, vs, _, _, HF.out, ⟨HC.out, .inr (HMEM.out (HB3.out.1 rfl))⟩, (HSI.out.weak (fun _ _ => trivial)).later HW3.out, rfl, (HB.out.later HW3.out).1, (HB.out.later HW3.out).2⟩)
              go_wp2_with fail
              go_ret
              exact F.out
          · obtain rfl : j = out.length := by omega
            have HF2 := Lib.hid (nodup_code HF.out HC.out HS0.out hno.out)
            have hol2 : out.length + 1 ≤ 2199023255552 := freshT_len HK.out HF2.out
            have HSW := Lib.hid (HS.out.later HBW.out)
            have hadw : ad.block < wr.heap.size := by
              obtain ⟨b, off, ha, hb, _⟩ := HSW.out.cell h0
              rw [Option.some.inj ha]; exact hb
            have HBA : Hid (∀ o, Below wr.heap.size wr (wr.alloc o)) := Lib.hid (fun o => (Below.refl _ _).alloc (Nat.le_refl _) _)
            have hws := HBW.out.size
            have hgl : g < wr.heap.size := by have := (HB.out.1.lt g rfl).2; omega
            have HB2 : Hid (Bld 22 1 w (wr.alloc (.cells #[.slice (some ad) S.length c2] 22)) (.slice (some ⟨g, 0, none⟩) out.length oc) out.length vs) := Lib.hid (HB.out.later (Below.now HBW.out (HBA.out _)))
            have HSI2 : Hid (SetsIn (wr.alloc (.cells #[.slice (some ad) S.length c2] 22)) (fun b => b ≠ g ∧ b < wr.heap.size) (vs ++ [.slice (some ad) S.length c2]) (S :: out).reverse) := Lib.hid (by
              rw [List.reverse_cons]
              exact ((HSI.out.weak (fun b h => ⟨h.1, by omega⟩)).later (Below.now HBW.out (HBA.out _))).push (HSW.out.later (HBA.out _)) hsc ⟨hadg, hadw⟩)
            have HSW2 : Hid (StrsIn (wr.alloc (.cells #[.slice (some ad) S.length c2] 22)) (some ad) S) := Lib.hid (HSW.out.later (HBA.out _))
            have HN := Lib.hid (fun W h1 h2 => l22Next_any l S a (some ad) cap c2 W h1 h2 HK.out HSS.out.2 hS41)
            have N1 : Hid ([Value.slice (some ad) S.length c2].length = 1 * 1) := Lib.hid rfl
            have N2 : Hid (∀ u ∈ [Value.slice (some ad) S.length c2], u.oneCell' = true) := Lib.hid (fun u hu => by rw [List.mem_singleton.1 hu]; rfl)
            have hsz : (wr.alloc (.cells #[.slice (some ad) S.length c2] 22)).heap.size = wr.heap.size + 1 := by simp
            have HSZ := Lib.hid hsz
            clear hsz
            go_wp2_with (at_builtin; refine wpList_appM rfl (.tmp 30) (.tmp 32) rfl Try.underlying31 Try.infoStrs rfl (by decide) rfl HB2.out rfl (Src.lit _) N1.out N2.out ?c2 ?c3 ?c4)
            case c2 => unfold maxLen; omega
            case c3 => omega
            intro v4 w4 hb4 hg4 ho4
            have H4 := Lib.hid hb4
            have HG4 := Lib.hid hg4
            have hgs := hg4.size
            obtain ⟨g4, c4, rfl⟩ := owns_someS hb4.1 (by omega)
            have hg4n : g4 = g ∨ g4 = wr.heap.size + 1 := by
              rcases ho4 with h | h
              · left; simpa [Value.ownBlock] using h
              · right; simpa [Value.ownBlock] using h
            have hg4l : g4 < w4.heap.size := (hb4.1.lt g4 rfl).2
            have HSI4 : Hid (SetsIn w4 (fun b => b ≠ g4 ∧ b < w4.heap.size) (vs ++ [.slice (some ad) S.length c2]) (S :: out).reverse) := Lib.hid (HSI2.out.grown HG4.out (fun b h => ⟨by
              simp only [Value.ownBlock, ne_eq, Option.some.injEq]; exact h.1, by rw [HSZ.out] at hgs; omega, by rw [HSZ.out] at hgs; omega⟩))
            have HSW4 : Hid (StrsIn w4 (some ad) S) := Lib.hid (HSW2.out.grownR HG4.out (by simp only [Value.ownBlock, ne_eq, Option.some.injEq]; exact hadg))
            clear hb4 hg4 ho4 HG4 HSI2 HSW2 HSI HB HB2 HS
            go_wp2_with fail
            refine (HN.out _ (HL.out.later H4.out.2) HSW4.out).mono ?_
            rintro e w5 ⟨q5, ad5, c5, rfl, hs5, hm5, hi5, hc5, hb5, hadw5⟩
            have hs5' := hb5.size
            have F : Hid (StT l w (.slice (some ⟨g4, 0, none⟩) (out.length + 1) c4) (.slice (some ad5) q5.length c5) w5) := Lib.hid
              ⟨S :: out, q5, _, g4, c4, ad5, c5, rfl, rfl, HF2.out, ⟨HC.out, hs5, hm5⟩, (HSI4.out.weak (fun b h => ⟨h.1, by omega⟩)).later hb5, H4.out.later hb5, hi5, hc5, by omega⟩
            clear hs5 hm5 hi5 hb5 hadw5 HN
            go_wp2_with fail
            go_roundw
            case rel => exact F.out
            case measure => simp [lenOf]; omega
set_option maxHeartbeats 1000000 in
theorem specIsCode_any (l : List ByteArray) (a : Option Addr) (cap : Nat) (w : World) (hl : StrsIn w a l) (hlen : l.length ≤ 2 ^ 40) (hcap : l.length ≤ cap) (hsz : ∀ j, j < l.length → (nthS l j).size ≤ maxLen) :
    Calls Try.prog 10 #[.slice a l.length cap] w (RetP (codeP l) w) := by
  have HL := Lib.hid hl
  have HOK := Lib.hid (fun W h => specListOk_any l a cap W h hlen hcap hsz)
  have HT := Lib.hid (specTailsOf_any l a cap w hl hlen hcap hsz)
  clear hl hsz
  go_enter Try.func10, Try.ntmps10
  go_wp2_with fail
  refine HT.out.mono ?_
  rintro e w1 (⟨hn, rfl, hb1⟩ | ⟨hlp, out, S, vs, a1, c1, hf, he, hsi, rfl, hown, hb1⟩)
  · have HN := Lib.hid hn
    have HB1 := Lib.hid hb1
    clear hn hb1 HT
    go_wp2_with fail
    go_loopw [8] (fun i wr => i = .int .i64 0 ∧ wr = w1) (fun _ _ => 0)
    case atStart => exact ⟨rfl, rfl⟩
    case round =>
      obtain ⟨rfl, rfl⟩ := hrel
      go_wp2_with fail
      refine (HOK.out _ (HL.out.later HB1.out)).mono ?_
      rintro e w2 ⟨bb, hbb, rfl, hb2⟩
      have F : Hid (RetP (codeP l) w (.returned (.bool bb)) w2) := Lib.hid (by
        cases bb
        · exact RetP.no (fun h => HN.out h.1) (Below.now HB1.out hb2)
        · exact absurd (hbb.1 rfl) HN.out)
      clear hbb hb2 HOK
      go_wp2_with fail
      go_ret
      exact F.out
  · have HLP := Lib.hid hlp
    have HK := Lib.hid (LOk.of hlp)
    have HF := Lib.hid hf
    have HE := Lib.hid he
    have HSI := Lib.hid hsi
    have HO := Lib.hid hown
    have HB1 := Lib.hid hb1
    have hol := freshT_len HK.out hf
    clear hlp hf he hsi hown hb1 HT
    go_wp2_with fail
    go_loopw [8] (fun i wr => ∃ j : Nat, j ≤ out.length ∧ i = .int .i64 (j : Nat) ∧ Hid (∀ i', i' < j → ¬ (⟨#[]⟩ : ByteArray) ∈ nthL out.reverse i') ∧ Below w1.heap.size w1 wr) (fun i _ => out.length - (intOf i).toNat)
    case atStart => exact ⟨0, Nat.zero_le _, rfl, Lib.hid (fun i' h => absurd h (Nat.not_lt_zero _)), Below.refl _ _⟩
    case round =>
      obtain ⟨j, hj, rfl, hno, hbw⟩ := hrel
      have HBW := Lib.hid hbw
      clear hbw
      by_cases hlt : j < out.length
      · obtain ⟨adj, cj, hv1, hv2, hv3, hv4⟩ := HSI.out.2 j (by simpa using hlt)
        obtain ⟨g, cc, hva⟩ := owns_someS HO.out (by omega)
        simp only [Value.slice.injEq, true_and] at hva
        obtain ⟨rfl, rfl⟩ := hva
        have c2 : wr.cell? ⟨g, j, none⟩ = some (.slice (some adj) (nthL out.reverse j).length cj) := by
          rw [HBW.out.cell (p := ⟨g, j, none⟩) (World.block_lt_of_cell? w1 ⟨g, j, none⟩ (by rw [World.ownsRow.cellAt HO.out j (by omega)]; exact hv1)), World.ownsRow.cellAt HO.out j (by omega)]
          exact hv1
        have HV2 := Lib.hid hv2
        have hx41 : (nthL out.reverse j).length ≤ 41 := by
          have h := (freshT_all HK.out HF.out).2 (nthL out.reverse j) (List.mem_reverse.1 (nthL_mem (by simpa using hlt)))
          exact HK.out.set h.1.nodup h.2
        have HNO : Hid (¬ (⟨#[]⟩ : ByteArray) ∈ nthL out.reverse j → ∀ i', i' < j + 1 → ¬ (⟨#[]⟩ : ByteArray) ∈ nthL out.reverse i') := Lib.hid (fun h i' hi' => by
          by_cases e : i' = j
          · rw [e]; exact h
          · exact hno.out i' (by omega))
        have HYE : Hid ((⟨#[]⟩ : ByteArray) ∈ nthL out.reverse j → ¬ codeP l) := Lib.hid (fun h h2 => (codeP_of HLP.out HF.out HE.out).1 h2 _ (List.mem_reverse.1 (nthL_mem (by simpa using hlt))) h)
        clear hv1 hv2 hv4
        generalize nthL out.reverse j = x at *
        have HH := Lib.hid (fun W h => l04Has_any x ⟨#[]⟩ (some adj) cj W h (by omega))
        go_wp2_with fail
        refine (HH.out _ (HV2.out.later HBW.out)).mono ?_
        rintro e w3 ⟨b3, hb3, rfl, hb33⟩
        have HB3 := Lib.hid hb3
        have HW3 := Lib.hid (Below.now HBW.out hb33)
        clear hb3 hb33 HH
        cases b3
        · have F := Lib.hid (HNO.out (fun h => by have := HB3.out.2 h; cases this))
          go_wp2_with fail
          go_roundw
          case rel => exact ⟨j + 1, by omega, by go_num, F, HW3.out⟩
          case measure => simp [intOf]; omega
        · have F : Hid (RetP (codeP l) w (.returned (.bool false)) w3) := Lib.hid (RetP.no (HYE.out (HB3.out.1 rfl)) (Below.now HB1.out HW3.out))
          go_wp2_with fail
          go_ret
          exact F.out
      · obtain rfl : j = out.length := by omega
        have HY : Hid (codeP l) := Lib.hid ((codeP_of HLP.out HF.out HE.out).2 (fun X hX => by
          obtain ⟨i, hi, rfl⟩ := mem_nthL (List.mem_reverse.2 hX)
          exact hno.out i (by simpa using hi)))
        go_wp2_with fail
        refine (HOK.out _ (HL.out.later (Below.now HB1.out HBW.out))).mono ?_
        rintro e w2 ⟨bb, hbb, rfl, hb2⟩
        have F : Hid (RetP (codeP l) w (.returned (.bool bb)) w2) := Lib.hid (by
          cases bb
          · have := hbb.2 HLP.out; cases this
          · exact RetP.yes HY.out (Below.now (Below.now HB1.out HBW.out) hb2))
        clear hbb hb2 HOK
        go_wp2_with fail
        go_ret
        exact F.out
end Go.Proofs.Ytlldhmoiahcfpaa
