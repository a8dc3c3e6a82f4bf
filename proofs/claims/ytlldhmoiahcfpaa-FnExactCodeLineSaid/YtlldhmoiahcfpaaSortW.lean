/-
  The reference's order of words and its sort by insertion (l15Sort).
-/
import Derived.Test.YtlldhmoiahcfpaaWordPl
import Derived.Test.YtlldhmoiahcfpaaAppM
import Derived.Test.YtlldhmoiahcfpaaHas
import Derived.Test.YtlldhmoiahcfpaaStrHelp
namespace Go.Proofs.Ytlldhmoiahcfpaa
open Go.RowKit
set_option linter.unusedVariables false
/-- the bytes of a word -/
def blW (s : ByteArray) : List UInt8 := s.data.toList
def blsW (l : List ByteArray) : List (List UInt8) := l.map blW
theorem blW_inj {a b : ByteArray} (h : blW a = blW b) : a = b := by
  obtain ⟨⟨x⟩⟩ := a
  obtain ⟨⟨y⟩⟩ := b
  have : x = y := h
  rw [this]
theorem blsW_mem {u : ByteArray} {l : List ByteArray} : blW u ∈ blsW l ↔ u ∈ l := by
  unfold blsW
  rw [List.mem_map]
  constructor
  · rintro ⟨x, hx, he⟩; rw [← blW_inj he]; exact hx
  · intro h; exact ⟨u, h, rfl⟩
theorem blsW_len (l : List ByteArray) : (blsW l).length = l.length := by simp [blsW]
theorem blsW_nth {l : List ByteArray} {i : Nat} (h : i < l.length) : (blsW l)[i]'(by rw [blsW_len]; exact h) = blW (nthS l i) := by rw [nthS_lt h]; simp [blsW]
/-- the order of words -/
def lessS (a b : ByteArray) : Bool := ltW (blW a) (blW b)
/-- strictly sorted -/
def SortedS (l : List ByteArray) : Prop := SortedW (blsW l)
theorem SortedS.ext {x y : List ByteArray} (hx : SortedS x) (hy : SortedS y) (h : ∀ u, u ∈ x ↔ u ∈ y) : x = y := by
  have key : ∀ {x y : List ByteArray}, (∀ u, u ∈ x ↔ u ∈ y) → ∀ u, u ∈ blsW x → u ∈ blsW y := fun h u hu => by
    obtain ⟨v, hv, rfl⟩ := List.mem_map.1 hu
    exact blsW_mem.2 ((h v).1 hv)
  have h1 := SortedW.ext hx hy (fun u => ⟨key h u, key (fun u => (h u).symm) u⟩)
  exact (List.map_inj_right (fun a b => blW_inj)).1 h1
theorem nodup_bls {x : List ByteArray} (h : (blsW x).Nodup) : x.Nodup := by
  unfold blsW at h
  unfold List.Nodup at *
  rw [List.pairwise_map] at h
  exact h.imp (fun h e => h (by rw [e]))
theorem SortedS.nodup {x : List ByteArray} (hx : SortedS x) : x.Nodup := nodup_bls (SortedW.nodup hx)
theorem SortedS.nil : SortedS [] := List.Pairwise.nil
theorem lessS_same {u v : ByteArray} (h : u.size = v.size) : lessS u v = Op.bytesLess u.toList v.toList := by
  have h1 : (blW u).length = (blW v).length := h
  unfold lessS ltW
  rw [bytesLess_eq, Lib.toList_data, Lib.toList_data]
  unfold blW at *
  simp [h1]
theorem lessS_other {u v : ByteArray} (h : ¬ u.size = v.size) : lessS u v = decide (u.size < v.size) := by
  have h1 : ¬ (blW u).length = (blW v).length := h
  have h2 : (blW u).length = u.size := rfl
  have h3 : (blW v).length = v.size := rfl
  unfold lessS ltW
  simp [h1]
  rw [h2, h3]
set_option maxHeartbeats 400000 in
theorem specIsLess_any (u v : ByteArray) (w : World) (hu : u.size ≤ maxLen) (hv : v.size ≤ maxLen) :
    Calls Try.prog 52 #[.string u, .string v] w fun e w' => e = .returned (.bool (lessS u v)) ∧ w = w' := by
  unfold maxLen at hu hv
  by_cases h : u.size = v.size
  · have F := Lib.hid (lessS_same h)
    have h1 : ((u.size : Int) == (v.size : Int)) = true := by simp [h]
    have h2 : ((u.size : Int) != (v.size : Int)) = false := by simp [h]
    clear h
    go_enter Try.func52, Try.ntmps52
    go_wp2_with fail
    go_ret
    exact ⟨ret_bool F.out.symm, rfl⟩
  · have F := Lib.hid (lessS_other h)
    have h1 : ((u.size : Int) == (v.size : Int)) = false := by rw [beq_eq_false_iff_ne]; omega
    have h2 : ((u.size : Int) != (v.size : Int)) = true := by rw [bne_iff_ne]; omega
    go_enter Try.func52, Try.ntmps52
    go_wp2_with fail
    go_ret
    exact ⟨ret_bool F.out.symm, rfl⟩
/-- a word comes to its place -/
def insS (x : ByteArray) (q : List ByteArray) (k : Nat) : List ByteArray := q.take k ++ [x] ++ q.drop k
theorem insS_bls (x : ByteArray) (q : List ByteArray) (k : Nat) : blsW (insS x q k) = insK (blW x) (blsW q) k := by
  unfold insS insK blsW
  rw [List.map_append, List.map_append, List.map_take, List.map_drop]; rfl
theorem insS_mem {x : ByteArray} {q : List ByteArray} {k : Nat} (u : ByteArray) : u ∈ insS x q k ↔ u ∈ q ∨ u = x := by
  rw [← blsW_mem, insS_bls, insK_mem, blsW_mem]
  exact ⟨fun h => h.imp id blW_inj, fun h => h.imp id (fun e => by rw [e])⟩
theorem insS_len {x : ByteArray} {q : List ByteArray} {k : Nat} (hk : k ≤ q.length) : (insS x q k).length = q.length + 1 := by
  have h := insK_len (w := blW x) (l := blsW q) (k := k) (by rw [blsW_len]; exact hk)
  rwa [← insS_bls, blsW_len, blsW_len] at h
theorem insS_sorted {x : ByteArray} {q : List ByteArray} {k : Nat} (hq : SortedS q) (hx : ¬ x ∈ q) (hk : k ≤ q.length) (hlo : ∀ i, i < k → lessS (nthS q i) x = true) (hhi : k < q.length → lessS (nthS q k) x = false) : SortedS (insS x q k) := by
  unfold SortedS
  rw [insS_bls]
  refine insK_sorted hq (fun h => hx (blsW_mem.1 h)) (by rw [blsW_len]; exact hk) (fun i h hi => ?_) (fun h => ?_)
  · rw [blsW_len] at h; rw [blsW_nth h]; exact hlo i hi
  · rw [blsW_len] at h; rw [blsW_nth h]; exact hhi h
/-- what a call hands back: the sorted set of the words that have a property -/
def RetSet (P : ByteArray → Prop) (w : World) (e : Ending) (w' : World) : Prop := ∃ q, SortedS q ∧ (∀ u, u ∈ q ↔ P u) ∧ RetSl 9 1 q.length (strVals q) w e w'
theorem owns_cap {w : World} {base : Nat} {T : TypeId} {size n m cap : Nat} {a : Option Addr} {xs : List Value} (h : w.ownsRow base T size (.slice a m cap) n xs) : n ≤ cap ∧ cap ≤ maxLen := by
  rcases h.2 with ⟨hv, h0⟩ | ⟨g, cap', cur, hv, hb, hg, hn, hc, hs, ht⟩
  · cases hv; exact ⟨by omega, by unfold maxLen; omega⟩
  · cases hv; exact ⟨hn, hc⟩
theorem owns_someS {w : World} {base : Nat} {T : TypeId} {v : Value} {n : Nat} {xs : List Value} (h : w.ownsRow base T 1 v n xs) (h0 : 0 < n) : ∃ g cap, v = .slice (some ⟨g, 0, none⟩) n cap := by
  rcases h.2 with ⟨hv, h1⟩ | ⟨g, cap', cur, hv, _⟩
  · omega
  · exact ⟨g, cap', hv⟩
/-- the state of the sort: the first j have come to their places -/
def StSort (xs : List ByteArray) (w : World) (v : Value) (j : Nat) (wr : World) : Prop := ∃ q g cap, v = .slice (some ⟨g, 0, none⟩) q.length cap ∧ SortedS q ∧ (∀ u, u ∈ q ↔ u ∈ xs.take j) ∧ q.length = j ∧ Bld 9 1 w wr v q.length (strVals q)
theorem strVals_one (l : List ByteArray) : ∀ u ∈ strVals l, u.oneCell' = true := fun u hu => by
  obtain ⟨x, _, rfl⟩ := List.mem_map.1 hu; rfl
theorem take_mem {l : List ByteArray} {j : Nat} (h : j < l.length) (u : ByteArray) : u ∈ l.take (j + 1) ↔ u ∈ l.take j ∨ u = nthS l j := by
  rw [List.take_succ_eq_append_getElem h, List.mem_append, List.mem_singleton, nthS_lt h]
theorem nodup_take {l : List ByteArray} (hn : l.Nodup) {j : Nat} (h : j < l.length) : ¬ nthS l j ∈ l.take j := fun hm => by
  rw [nthS_lt h] at hm
  obtain ⟨i, hi, he⟩ := List.getElem_of_mem hm
  rw [List.length_take] at hi
  rw [List.getElem_take] at he
  exact (List.pairwise_iff_getElem.1 hn) i j (by omega) h (by omega) he
set_option maxRecDepth 20000 in
set_option maxHeartbeats 4000000 in
theorem l15Sort_any (xs : List ByteArray) (a : Option Addr) (cap : Nat) (w : World) (hl : StrsIn w a xs) (hlen : xs.length ≤ 100000) (hn : xs.Nodup) (hsz : ∀ j, j < xs.length → (nthS xs j).size ≤ maxLen) :
    Calls Try.prog 46 #[.slice a xs.length cap] w (RetSet (fun u => u ∈ xs) w) := by
  have HL := Lib.hid hl
  have HN := Lib.hid hn
  have HZ := Lib.hid hsz
  have HS : Hid (StSort xs w (.slice (some ⟨w.heap.size, 0, none⟩) 0 0) 0 (w.alloc (.cells #[] 9))) := Lib.hid ⟨[], _, _, rfl, SortedS.nil, by simp, rfl, Bld.empty 9 1 w⟩
  clear hl hn hsz
  go_enter Try.func46, Try.ntmps46
  go_wp2_with fail
  go_loopw [3, 11] (fun v i wr => ∃ j : Nat, j ≤ xs.length ∧ i = .int .i64 j ∧ StSort xs w v j wr) (fun _ i _ => xs.length - (intOf i).toNat)
  case atStart => exact ⟨0, Nat.zero_le _, rfl, HS.out⟩
  case round =>
    clear HS
    obtain ⟨j, hj, rfl, q, g, oc, rfl, hso, hme, hql, hbd⟩ := hrel
    have HB2 := Lib.hid hbd
    have hbw := hbd.2
    have hcap := owns_cap hbd.1
    have HSO := Lib.hid hso
    have HME := Lib.hid hme
    have HQL := Lib.hid hql
    have hq1 : q.length ≤ xs.length := by omega
    clear hbd hso hme hql
    by_cases hlt : j < xs.length
    · obtain ⟨b, off, rfl, hb, hc⟩ := (HL.out.later hbw).cell hlt
      have c1 := hc j hlt
      have HTM := Lib.hid (take_mem hlt)
      have HNT := Lib.hid (nodup_take HN.out hlt)
      have hxz := HZ.out j hlt
      have hqz : Hid (∀ i, i < q.length → (nthS q i).size ≤ maxLen) := Lib.hid (fun i hi => by
        have h1 := (HME.out (nthS q i)).1 (by rw [nthS_lt hi]; exact List.getElem_mem hi)
        obtain ⟨k, hk, he⟩ := List.getElem_of_mem (List.mem_of_mem_take h1)
        rw [← he, ← nthS_lt hk]
        exact HZ.out k hk)
      have HC : Hid (∀ i, i < q.length → wr.cell? ⟨g, i, none⟩ = some (.string (nthS q i))) := Lib.hid (fun i hi => by
        rw [World.ownsRow.cellAt HB2.out.1 i (by omega), nthS_lt hi]
        simp [strVals, hi])
      clear hc
      generalize hx : nthS xs j = x at *
      clear hx
      go_wp2_with fail
      go_loop [6] (fun i => ∃ k : Nat, k ≤ q.length ∧ i = .int .i64 k ∧ Hid (∀ i', i' < k → lessS (nthS q i') x = true)) (fun i => q.length - (intOf i).toNat)
      case atStart => exact ⟨0, Nat.zero_le _, rfl, Lib.hid (fun i' h => absurd h (Nat.not_lt_zero _))⟩
      case round =>
        obtain ⟨k, hk, rfl, hlo⟩ := hrel
        by_cases hgo : k < q.length ∧ lessS (nthS q k) x = true
        · have hkq := hgo.1
          have c2 := HC.out k hkq
          have hz2 := hqz.out k hkq
          have HLS := Lib.hid (fun W => specIsLess_any (nthS q k) x W hz2 hxz)
          have F : Hid (∀ i', i' < k + 1 → lessS (nthS q i') x = true) := Lib.hid (fun i' hi' => by
            by_cases e : i' = k
            · rw [e]; exact hgo.2
            · exact hlo.out i' (by omega))
          rw [hgo.2] at HLS
          clear hgo hlo
          generalize nthS q k = u at *
          go_wp2_with (go_at_call 52; refine (HLS.out _).mono ?_; rintro e w' ⟨rfl, rfl⟩)
          go_round
          case rel => exact ⟨k + 1, by omega, by go_num, F⟩
          case measure => simp [intOf]; omega
        · have HG := Lib.hid hgo
          have hk2 : (0 : Int) ≤ (k : Int) := by omega
          have hk3 : (k : Int) ≤ (oc : Int) := by omega
          have hk4 : (k : Int) ≤ (q.length : Int) := by omega
          have hcap2 := hcap.1
          have hql : (strVals q).length = q.length := by simp [strVals]
          have hcs : ∀ W, Below wr.heap.size wr W → ∀ i (h : i < q.length), W.cell? ⟨g, i, none⟩ = some (.string (nthS q i)) := fun W hW i hi => by
            rw [hW.cell (World.block_lt_of_cell? wr ⟨g, i, none⟩ (HC.out i hi)), HC.out i hi]
          have S1 : Hid (∀ W, Below wr.heap.size wr W → Src W (.slice (some ⟨g, 0, none⟩) k oc) k ((strVals q).take k)) := Lib.hid (fun W hW => .inr ⟨_, _, rfl, fun i u hu => by
            have hi : i < k := by
              have := (List.getElem?_eq_some_iff.1 hu).1
              rw [List.length_take] at this; omega
            rw [add_off, Nat.zero_add, hcs W hW i (by omega)]
            rw [List.getElem?_take_of_lt hi] at hu
            rw [← hu]; simp [strVals, nthS_lt (show i < q.length by omega), show i < q.length by omega]⟩)
          have S2 : Hid (∀ W, Below wr.heap.size wr W → Src W (.slice (some ⟨g, k, none⟩) (q.length - k) (oc - k)) (q.length - k) ((strVals q).drop k)) := Lib.hid (fun W hW => .inr ⟨_, _, rfl, fun i u hu => by
            have hi : i < q.length - k := by
              have := (List.getElem?_eq_some_iff.1 hu).1
              rw [List.length_drop, hql] at this; omega
            rw [add_off, hcs W hW (k + i) (by omega)]
            rw [List.getElem?_drop] at hu
            rw [← hu]; simp [strVals, nthS_lt (show k + i < q.length by omega), show k + i < q.length by omega]⟩)
          have HA1 : Hid (((strVals q).take k).length = k * 1) := Lib.hid (by rw [List.length_take, hql]; omega)
          have HA2 : Hid (((strVals q).drop k).length = (q.length - k) * 1) := Lib.hid (by rw [List.length_drop, hql]; omega)
          have HO1 : Hid (∀ u ∈ (strVals q).take k, u.oneCell' = true) := Lib.hid (fun u hu => strVals_one q u (List.mem_of_mem_take hu))
          have HO2 : Hid (∀ u ∈ (strVals q).drop k, u.oneCell' = true) := Lib.hid (fun u hu => strVals_one q u (List.mem_of_mem_drop hu))
          have HE := Lib.hid (Bld.empty 9 1 wr)
          have HX : Hid ([] ++ (strVals q).take k ++ [Value.string x] ++ (strVals q).drop k = strVals (insS x q k)) := Lib.hid (by
            unfold insS strVals
            rw [List.map_append, List.map_append, List.map_take, List.map_drop, List.nil_append]; rfl)
          have HLn : Hid ((insS x q k).length = q.length + 1) := Lib.hid (insS_len hk)
          have HF : Hid (∀ W v, Bld 9 1 w W v (insS x q k).length (strVals (insS x q k)) → StSort xs w v (j + 1) W) := Lib.hid (fun W v hB => by
            obtain ⟨g', c', rfl⟩ := owns_someS hB.1 (by rw [HLn.out]; omega)
            refine ⟨insS x q k, g', c', rfl, insS_sorted HSO.out (fun h => HNT.out ((HME.out x).1 h)) hk hlo.out (fun h => ?_), fun u => ?_, by rw [HLn.out, HQL.out], hB⟩
            · cases e : lessS (nthS q k) x
              · rfl
              · exact absurd ⟨h, e⟩ HG.out
            · rw [insS_mem, HTM.out, HME.out])
          clear hcs hql hlo HTM HNT HN
          by_cases hlj : k < q.length
          · have c2 := HC.out k hlj
            have hz2 := hqz.out k hlj
            have HLS := Lib.hid (fun W => specIsLess_any (nthS q k) x W hz2 hxz)
            have hno : lessS (nthS q k) x = false := by
              cases e : lessS (nthS q k) x
              · rfl
              · exact absurd ⟨hlj, e⟩ hgo
            rw [hno] at HLS
            have hoj : ¬ oc = k := by omega
            clear hgo hno
            generalize nthS q k = u at *
            go_wp2_with (first | (go_at_call 52; refine (HLS.out _).mono ?_; rintro e w' ⟨rfl, rfl⟩) | (at_builtin; refine wpList_appM rfl (.tmp 29) (.tmp 32) rfl Try.underlying22 Try.infoStr rfl (by decide) rfl HE.out rfl (S1.out _ HE.out.2) HA1.out HO1.out ?a21 ?a31 ?a41))
            (try case a21 => unfold maxLen; omega)
            case a31 => omega
            intro v4 w4 hb4 hg4 ho4
            have H4 := Lib.hid hb4
            clear hb4 hg4 ho4
            go_wp2_with (at_builtin; refine wpList_app1 rfl (.tmp 34) (.tmp 36) rfl Try.underlying22 Try.infoStr rfl (by decide) rfl H4.out rfl rfl ?b11 ?b21 ?b31 ?b41)
            case b11 => simp [Value.oneCell']
            case b21 => unfold maxLen; omega
            case b31 => omega
            intro v5 w5 hb5
            have HZ5 := Lib.hid hb5
            clear hb5
            go_wp2_with (at_builtin; refine wpList_appM rfl (.tmp 38) (.tmp 41) rfl Try.underlying22 Try.infoStr rfl (by decide) rfl HZ5.out rfl (S2.out _ HZ5.out.2) HA2.out HO2.out ?d21 ?d31 ?d41)
            (try case d21 => unfold maxLen; omega)
            case d31 => omega
            intro v6 w6 hb6 hg6 ho6
            have F6 : Hid (StSort xs w v6 (j + 1) w6) := by
              have h7 : Bld 9 1 wr w6 v6 (0 + k + 1 + (q.length - k)) ([] ++ (strVals q).take k ++ [Value.string x] ++ (strVals q).drop k) := by simpa using hb6
              refine Lib.hid (HF.out _ _ (Bld.since ?_ HB2.out.2))
              rw [← HX.out, HLn.out, show q.length + 1 = 0 + k + 1 + (q.length - k) by omega]
              exact h7
            clear hb6 hg6 ho6
            go_wp2_with fail
            go_roundw
            case rel => exact ⟨j + 1, by omega, by go_num, F6.out⟩
            case measure => simp [intOf]; omega
          · have hkq : k = q.length := by omega
            have HX2 : Hid ([] ++ (strVals q).take k ++ [Value.string x] ++ [] = strVals (insS x q k)) := Lib.hid (by
              rw [← HX.out, List.drop_of_length_le (by rw [show (strVals q).length = q.length by simp [strVals]]; omega)])
            have HA2e : Hid (([] : List Value).length = 0 * 1) := Lib.hid rfl
            have HO2e : Hid (∀ u ∈ ([] : List Value), u.oneCell' = true) := Lib.hid (fun u hu => by simp at hu)
            have S4 : Hid (∀ (W : World) (ad : Addr) (c : Nat), Src W (.slice (some ad) 0 c) 0 []) := Lib.hid (fun W ad c => .inr ⟨_, _, rfl, fun i u hu => by simp at hu⟩)
            replace HX := HX2
            clear HX2 HA2 HO2 S2 hgo HG HC hqz
            subst hkq
            by_cases hoj : oc = q.length
            · subst hoj
              go_wp2_with (at_builtin; refine wpList_appM rfl (.tmp 29) (.tmp 32) rfl Try.underlying22 Try.infoStr rfl (by decide) rfl HE.out rfl (S1.out _ HE.out.2) HA1.out HO1.out ?a22 ?a32 ?a42)
              (try case a22 => unfold maxLen; omega)
              case a32 => omega
              intro v4 w4 hb4 hg4 ho4
              have H4 := Lib.hid hb4
              clear hb4 hg4 ho4
              go_wp2_with (at_builtin; refine wpList_app1 rfl (.tmp 34) (.tmp 36) rfl Try.underlying22 Try.infoStr rfl (by decide) rfl H4.out rfl rfl ?b12 ?b22 ?b32 ?b42)
              case b12 => simp [Value.oneCell']
              case b22 => unfold maxLen; omega
              case b32 => omega
              intro v5 w5 hb5
              have HZ5 := Lib.hid hb5
              clear hb5
              go_wp2_with (at_builtin; refine wpList_appM rfl (.tmp 38) (.tmp 41) rfl Try.underlying22 Try.infoStr rfl (by decide) rfl HZ5.out rfl (S4.out _ _ _) HA2e.out HO2e.out ?d22 ?d32 ?d42)
              (try case d22 => unfold maxLen; omega)
              case d32 => omega
              intro v6 w6 hb6 hg6 ho6
              have F6 : Hid (StSort xs w v6 (j + 1) w6) := by
                have h7 : Bld 9 1 wr w6 v6 (0 + q.length + 1 + 0) ([] ++ (strVals q).take q.length ++ [Value.string x] ++ []) := by simpa using hb6
                refine Lib.hid (HF.out _ _ (Bld.since ?_ HB2.out.2))
                rw [← HX.out, HLn.out, show q.length + 1 = 0 + q.length + 1 + 0 by omega]
                exact h7
              clear hb6 hg6 ho6
              go_wp2_with fail
              go_roundw
              case rel => exact ⟨j + 1, by omega, by go_num, F6.out⟩
              case measure => simp [intOf]; omega
            · go_wp2_with (at_builtin; refine wpList_appM rfl (.tmp 29) (.tmp 32) rfl Try.underlying22 Try.infoStr rfl (by decide) rfl HE.out rfl (S1.out _ HE.out.2) HA1.out HO1.out ?a23 ?a33 ?a43)
              (try case a23 => unfold maxLen; omega)
              case a33 => omega
              intro v4 w4 hb4 hg4 ho4
              have H4 := Lib.hid hb4
              clear hb4 hg4 ho4
              go_wp2_with (at_builtin; refine wpList_app1 rfl (.tmp 34) (.tmp 36) rfl Try.underlying22 Try.infoStr rfl (by decide) rfl H4.out rfl rfl ?b13 ?b23 ?b33 ?b43)
              case b13 => simp [Value.oneCell']
              case b23 => unfold maxLen; omega
              case b33 => omega
              intro v5 w5 hb5
              have HZ5 := Lib.hid hb5
              clear hb5
              go_wp2_with (at_builtin; refine wpList_appM rfl (.tmp 38) (.tmp 41) rfl Try.underlying22 Try.infoStr rfl (by decide) rfl HZ5.out rfl (S4.out _ _ _) HA2e.out HO2e.out ?d23 ?d33 ?d43)
              (try case d23 => unfold maxLen; omega)
              case d33 => omega
              intro v6 w6 hb6 hg6 ho6
              have F6 : Hid (StSort xs w v6 (j + 1) w6) := by
                have h7 : Bld 9 1 wr w6 v6 (0 + q.length + 1 + 0) ([] ++ (strVals q).take q.length ++ [Value.string x] ++ []) := by simpa using hb6
                refine Lib.hid (HF.out _ _ (Bld.since ?_ HB2.out.2))
                rw [← HX.out, HLn.out, show q.length + 1 = 0 + q.length + 1 + 0 by omega]
                exact h7
              clear hb6 hg6 ho6
              go_wp2_with fail
              go_roundw
              case rel => exact ⟨j + 1, by omega, by go_num, F6.out⟩
              case measure => simp [intOf]; omega
    · obtain rfl : j = xs.length := by omega
      have F : Hid (RetSet (fun u => u ∈ xs) w (.returned (.slice (some ⟨g, 0, none⟩) q.length oc)) wr) := Lib.hid ⟨q, HSO.out, fun u => by rw [HME.out, List.take_length], _, _, rfl, HB2.out.1, HB2.out.2⟩
      go_wp2_with fail
      go_ret
      exact F.out
end Go.Proofs.Ytlldhmoiahcfpaa
