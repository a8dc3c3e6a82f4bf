/-
  TailsOf of the program.
-/
import Derived.Test.YtmgdglghjlggnaaGra09
namespace Go.Proofs.Ytmgdglghjlggnaa
open Go.RowKit
set_option linter.unusedVariables false
/-- a list that is being collected, pair by pair -/
def StLst (n : Nat) (R : Nat → Nat → ByteArray → Prop) (w : World) (j k : Nat) (v : Value) (wr : World) : Prop :=
  ∃ q, (∀ u, u ∈ q ↔ PairTo n R j k u) ∧ q.length ≤ 16 * j + k ∧ Bld 9 1 w wr v q.length (strVals q)
theorem StLst.start (n : Nat) (R : Nat → Nat → ByteArray → Prop) {w wr : World} (h : Below w.heap.size w wr) : StLst n R w 0 0 (.slice none 0 0) wr :=
  ⟨[], fun u => ⟨fun h => (by cases h), fun h => absurd h PairTo.zero⟩, Nat.le_refl _, Bld.nil _ _ h⟩
theorem StLst.row {n : Nat} {R : Nat → Nat → ByteArray → Prop} {w wr : World} {j : Nat} {v : Value} (hn : n ≤ 16) (h : StLst n R w j n v wr) : StLst n R w (j + 1) 0 v wr := by
  obtain ⟨q, hm, hl, hb⟩ := h
  exact ⟨q, fun u => (hm u).trans (PairTo.row u), by omega, hb⟩
theorem StLst.skip {n : Nat} {R : Nat → Nat → ByteArray → Prop} {w wr : World} {j k : Nat} {v : Value} (h : StLst n R w j k v wr) (hk : k < n) (hR : ∀ u, ¬ R j k u) : StLst n R w j (k + 1) v wr := by
  obtain ⟨q, hm, hl, hb⟩ := h
  exact ⟨q, fun u => by rw [hm u, PairTo.next hk]; exact ⟨.inl, fun h => h.elim id (fun h => absurd h (hR u))⟩, by omega, hb⟩
theorem StLst.put {n : Nat} {R : Nat → Nat → ByteArray → Prop} {w wr : World} {j k : Nat} {q : List ByteArray} {x : ByteArray} {v : Value} (hm : ∀ u, u ∈ q ↔ PairTo n R j k u) (hl : q.length ≤ 16 * j + k) (hk : k < n) (hR : ∀ u, R j k u ↔ u = x)
    (hb : Bld 9 1 w wr v (q.length + 1) (strVals q ++ [.string x])) : StLst n R w j (k + 1) v wr := by
  refine ⟨q ++ [x], fun u => ?_, by simp; omega, ?_⟩
  · rw [List.mem_append, List.mem_singleton, PairTo.next hk, hm u, hR u]
  · have e1 : (q ++ [x]).length = q.length + 1 := by simp
    have e2 : strVals (q ++ [x]) = strVals q ++ [.string x] := by simp [strVals]
    rw [e1, e2]; exact hb
def firstR' (l : List ByteArray) (i k : Nat) (u : ByteArray) : Prop := nthS l i ≠ nthS l k ∧ begP (nthS l k) (nthS l i) ∧ u = tailB (nthS l k) (nthS l i)
theorem firstR'_all {l : List ByteArray} (u : ByteArray) : PairTo l.length (firstR' l) l.length 0 u ↔ firstM l u := by
  constructor
  · rintro ⟨i, k, hk, hi, hne, hb, rfl⟩
    have hi2 : i < l.length := by omega
    exact ⟨_, nthS_mem hk, _, nthS_mem hi2, fun e => hne e.symm, hb, rfl⟩
  · rintro ⟨x, hx, y, hy, hne, hb, rfl⟩
    obtain ⟨k, hk, rfl⟩ := mem_nthS hx
    obtain ⟨i, hi, rfl⟩ := mem_nthS hy
    exact ⟨i, k, hk, .inl hi, fun e => hne e.symm, hb, rfl⟩
def nextR3 (l X : List ByteArray) (i m : Nat) (u : ByteArray) : Prop :=
  (m % 2 = 0 ∧ begP (nthS X i) (nthS l (m / 2)) ∧ u = tailB (nthS X i) (nthS l (m / 2))) ∨ (m % 2 = 1 ∧ (nthS X i).size ≠ 0 ∧ begP (nthS l (m / 2)) (nthS X i) ∧ u = tailB (nthS l (m / 2)) (nthS X i))
theorem nextR3_even {l X : List ByteArray} {i k : Nat} (u : ByteArray) : nextR3 l X i (2 * k) u ↔ (begP (nthS X i) (nthS l k) ∧ u = tailB (nthS X i) (nthS l k)) := by
  have h1 : 2 * k % 2 = 0 := by omega
  have h2 : 2 * k / 2 = k := by omega
  unfold nextR3
  rw [h1, h2]
  simp
theorem nextR3_odd {l X : List ByteArray} {i k : Nat} (u : ByteArray) : nextR3 l X i (2 * k + 1) u ↔ ((nthS X i).size ≠ 0 ∧ begP (nthS l k) (nthS X i) ∧ u = tailB (nthS l k) (nthS X i)) := by
  have h1 : (2 * k + 1) % 2 = 1 := by omega
  have h2 : (2 * k + 1) / 2 = k := by omega
  unfold nextR3
  rw [h1, h2]
  simp
theorem nextR3_all {l X : List ByteArray} (u : ByteArray) : PairTo (2 * l.length) (nextR3 l X) X.length 0 u ↔ nextM l X u := by
  constructor
  · rintro ⟨i, m, hm, hi, h⟩
    have hi2 : i < X.length := by omega
    have hk : m / 2 < l.length := by omega
    refine ⟨_, nthS_mem hi2, _, nthS_mem hk, ?_⟩
    rcases h with ⟨_, h⟩ | ⟨_, h⟩
    · exact .inr h
    · exact .inl h
  · rintro ⟨x, hx, y, hy, h⟩
    obtain ⟨i, hi, rfl⟩ := mem_nthS hx
    obtain ⟨k, hk, rfl⟩ := mem_nthS hy
    rcases h with h | h
    · exact ⟨i, 2 * k + 1, by omega, .inl hi, (nextR3_odd u).2 h⟩
    · exact ⟨i, 2 * k, by omega, .inl hi, (nextR3_even u).2 h⟩
theorem trim_tail {s p : ByteArray} (h : begP s p) : (⟨(Lib.trimPrefix s.data.toList p.data.toList).toArray⟩ : ByteArray) = tailB s p := by
  apply ba_ext
  have h1 : Lib.hasPrefix s.data.toList p.data.toList = true := (hasPre_iff s p).2 h
  unfold Lib.trimPrefix tailB
  rw [if_pos h1, ByteArray.data_extract, Array.toList_extract, List.extract_eq_take_drop]
  have hl : p.data.toList.length = p.size := rfl
  rw [hl]
  have h2 : s.data.toList.length = s.size := rfl
  rw [List.take_of_length_le (by rw [List.length_drop, h2]; exact Nat.le_refl _)]
theorem cutYes_any {s p : ByteArray} (h : begP s p) (w : World) : Calls Try.prog 40 #[.string s, .string p] w fun e w' => e = .returned (.tuple #[.string (tailB s p), .bool true]) ∧ w = w' :=
  (Try.strings_CutPrefix s p w).mono fun e w' ⟨h1, h2⟩ => ⟨by rw [h1, trim_tail h, (hasPre_iff s p).2 h], h2.symm⟩
theorem cutNo_any {s p : ByteArray} (h : ¬ begP s p) (w : World) : Calls Try.prog 40 #[.string s, .string p] w fun e w' => e = .returned (.tuple #[.string s, .bool false]) ∧ w = w' :=
  (Try.strings_CutPrefix s p w).mono fun e w' ⟨h1, h2⟩ => ⟨by
    have h3 : Lib.hasPrefix s.data.toList p.data.toList = false := by
      cases e : Lib.hasPrefix s.data.toList p.data.toList
      · rfl
      · exact absurd ((hasPre_iff s p).1 e) h
    rw [h1, h3]
    unfold Lib.trimPrefix
    rw [h3]
    rfl, h2.symm⟩
theorem freshT_pos {l : List ByteArray} : ∀ {out : List (List ByteArray)}, FreshT l out → ∀ {X : List ByteArray}, X ∈ out → 0 < X.length
  | [], _, X, h => by cases h
  | Y :: out, hf, X, h => by
    rcases List.mem_cons.1 h with rfl | h
    · exact List.length_pos_iff.2 hf.2.2.1
    · exact freshT_pos hf.1 h
/-- the state of TailsOf's loop, in the program -/
def StTI (l : List ByteArray) (w : World) (v p : Value) (wr : World) : Prop :=
  ∃ out S vs box aS cS, p = .pointer (some ⟨box, 0, none⟩) ∧ FreshT l out ∧ ComesT l out S ∧ Bld 23 1 w wr v out.length vs ∧ SetsIn wr (fun b => b < box ∧ some b ≠ v.ownBlock) vs out.reverse ∧ StrsIn wr aS S ∧
    wr.heap[box]? = some (.cells #[.slice aS S.length cS] 23 (0, 0)) ∧ w.heap.size ≤ box ∧ (∀ g, v.ownBlock = some g → g < box) ∧ (∀ x, aS = some x → x.block < box ∧ some x.block ≠ v.ownBlock) ∧ S.length ≤ cS
theorem box_cell {w : World} {b : Nat} {v : Value} {T : TypeId} (h : w.heap[b]? = some (.cells #[v] T (0, 0))) : w.cell? ⟨b, 0, none⟩ = some v ∧ w.frozen? ⟨b, 0, none⟩ = false ∧ b < w.heap.size := by
  refine ⟨by simp [World.cell?, h], by simp [World.frozen?, h], ?_⟩
  exact (Array.getElem?_eq_some_iff.1 h).1
theorem setGrownT (w : World) (B o : Nat) (v : Value) : w.grownBy (w.setCell ⟨B, o, none⟩ v) (some B) := by
  have hszc : (w.setCell ⟨B, o, none⟩ v).heap.size = w.heap.size := by simp
  exact ⟨rfl, rfl, rfl, by rw [hszc]; exact Nat.le_refl _, fun k hk hne => by
    unfold World.setCell
    rw [Array.getElem?_modify, if_neg (fun e : B = k => hne (by rw [e]))]⟩
theorem owns_grownT {w w' : World} {base : Nat} {T : TypeId} {size : Nat} {v : Value} {n : Nat} {xs : List Value} {row : Option Nat} (h : w.ownsRow base T size v n xs) (hg : w.grownBy w' row) (hne : ∀ k, v.ownBlock = some k → row ≠ some k) : w'.ownsRow base T size v n xs :=
  h.kept hg (by
    cases hq : v.ownBlock with
    | none => exact .inl rfl
    | some q => exact .inr fun e => hne q hq e.symm)
theorem alloc_grownT (w : World) (o : Obj) : Below w.heap.size w (w.alloc o) := (Below.refl _ _).alloc (Nat.le_refl _) _
theorem StrsIn.grownO {w w' : World} {r : Option Nat} {a : Option Addr} {l : List ByteArray} (h : StrsIn w a l) (hg : w.grownBy w' r) (hne : ∀ x, a = some x → some x.block ≠ r) : StrsIn w' a l := by
  cases a with
  | none =>
    rcases h with h | ⟨b, off, ha, _⟩
    · exact .inl h
    · cases ha
  | some ad => exact h.grownR hg (hne ad rfl)
theorem hos_lt {w : World} {base : Nat} {T : TypeId} {size n c m : Nat} {x : Addr} {xs : List Value} (h : w.ownsRow base T size (.slice (some x) m c) n xs) : base ≤ x.block ∧ x.block < w.heap.size := h.lt x.block rfl
/-- behind a round: the old box has been written, the new one is laid -/
theorem StTI.next {l : List ByteArray} {w w7 : World} {out : List (List ByteArray)} {S : List ByteArray} {vs : List Value} {g c box box2 : Nat} {aS : Option Addr} {cS : Nat} {u : Value} {n : Nat} (hu : u = .slice aS S.length cS) (hn : n = out.length)
    (hf : FreshT l out) (hc : ComesT l out S) (hb : Bld 23 1 w w7 (.slice (some ⟨g, 0, none⟩) n c) n vs) (hs : SetsIn w7 (fun b => b < w7.heap.size ∧ b ≠ box ∧ b ≠ g) vs out.reverse) (hi : StrsIn w7 aS S)
    (hbox : w.heap.size ≤ box) (hg : g ≠ box) (hA : ∀ x, aS = some x → x.block < w7.heap.size ∧ x.block ≠ box ∧ x.block ≠ g) (h2 : box2 = w7.heap.size) (hcS : S.length ≤ cS) :
    StTI l w (.slice (some ⟨g, 0, none⟩) n c) (.pointer (some ⟨box2, 0, none⟩)) ((w7.setCell ⟨box, 0, none⟩ u).alloc (.cells #[u] 23)) := by
  subst hu hn h2
  have hG := setGrownT w7 box 0 (.slice aS S.length cS)
  have hsz : (w7.setCell ⟨box, 0, none⟩ (.slice aS S.length cS)).heap.size = w7.heap.size := by simp
  have hAl := alloc_grownT (w7.setCell ⟨box, 0, none⟩ (.slice aS S.length cS)) (.cells #[.slice aS S.length cS] 23)
  refine ⟨out, S, vs, w7.heap.size, aS, cS, rfl, hf, hc, ⟨owns_later (owns_grownT hb.1 hG (fun k hk e => hg (by simp [Value.ownBlock] at hk; simp at e; omega))) hAl, ?_⟩, ?_, ?_, ?_, hb.2.size, ?_, ?_, hcS⟩
  · exact (hb.2.setCell hbox _).trans (hAl.mono (by rw [hsz]; exact hb.2.size))
  · exact (hs.grown hG (fun b h => ⟨fun e => h.2.1 (by simpa using e), h.1, by simp only [Value.ownBlock, ne_eq, Option.some.injEq]; exact h.2.2⟩)).later hAl
  · exact (hi.grownO hG (fun x hx e => (hA x hx).2.1 (by simpa using e))).later hAl
  · rw [← hsz]; exact alloc_at _ _
  · intro k hk
    simp only [Value.ownBlock, Option.some.injEq] at hk
    have := (hb.1.lt g rfl).2
    omega
  · intro x hx
    obtain ⟨h1, h2, h3⟩ := hA x hx
    exact ⟨h1, by simp only [Value.ownBlock, ne_eq, Option.some.injEq]; exact h3⟩
set_option maxRecDepth 100000 in
set_option maxHeartbeats 4000000 in
theorem implTailsOf_any (l : List ByteArray) (a : Option Addr) (cap : Nat) (w : World) (hl : StrsIn w a l) (hlen : l.length ≤ 2 ^ 40) (hcap : l.length ≤ cap) (hsz : ∀ j, j < l.length → (nthS l j).size ≤ maxLen) :
    Calls Try.prog 20 #[.slice a l.length cap] w (RetTails l w) := by
  have HL := Lib.hid hl
  have HOK := Lib.hid (implListOk_any l a cap w hl hlen hcap hsz)
  clear hl hsz
  go_enter Try.func20, Try.ntmps20
  go_wp2_with fail
  refine HOK.out.mono ?_
  rintro e w1 ⟨bb, hbb, rfl, hb1⟩
  have HBB := Lib.hid hbb
  have HB1 := Lib.hid hb1
  clear hbb hb1 HOK
  cases bb
  · have F : Hid (RetTails l w (.returned (.slice none 0 0)) w1) := Lib.hid (.inl ⟨fun h => (by have := HBB.out.2 h; cases this), rfl, HB1.out⟩)
    go_wp2_with fail
    go_ret
    exact F.out
  · have HLP : Hid (listP l) := Lib.hid (HBB.out.1 rfl)
    have HK := Lib.hid (LOk.of HLP.out)
    have hl8 := HK.out.hi
    clear HBB
    go_wp2_with fail
    go_loopw [3, 27] (fun v i wr => ∃ j : Nat, j ≤ l.length ∧ i = .int .i64 (j : Nat) ∧ StLst l.length (firstR' l) w j 0 v wr) (fun _ i _ => l.length - (intOf i).toNat)
    case atStart => exact ⟨0, Nat.zero_le _, rfl, StLst.start _ _ HB1.out⟩
    case round =>
      clear HB1
      obtain ⟨j, hj, rfl, hst⟩ := hrel
      have HST := Lib.hid hst
      obtain ⟨q1, hme1, hql1, hb1⟩ := hst
      have HW := Lib.hid hb1.2
      obtain ⟨a1, c1', rfl⟩ := owns_form hb1.1
      have HQ1 := Lib.hid hb1
      have HM1 := Lib.hid hme1
      clear hb1 hme1
      by_cases hlt : j < l.length
      · obtain ⟨b, off, rfl, hb, hc⟩ := (HL.out.later HW.out).cell hlt
        have c1 := hc j hlt
        have hx6 := HK.out.sz hlt
        clear hc
        go_wp2_with fail
        generalize hW : wr = wr0 at *
        clear hW
        go_loopw [3, 33] (fun v i wr => ∃ k : Nat, k ≤ l.length ∧ i = .int .i64 (k : Nat) ∧ StLst l.length (firstR' l) w j k v wr) (fun _ i _ => l.length - (intOf i).toNat)
        case atStart => exact ⟨0, Nat.zero_le _, rfl, HST.out⟩
        case round =>
          clear HST HW hb c1 HQ1 HM1 hql1
          obtain ⟨k, hk, rfl, hst⟩ := hrel
          have HST := Lib.hid hst
          obtain ⟨q, hme, hql, hbd⟩ := hst
          have HME := Lib.hid hme
          have HB := Lib.hid hbd
          obtain ⟨a3, c3, rfl⟩ := owns_form hbd.1
          clear hme hbd
          by_cases hlk : k < l.length
          · obtain ⟨b', off', hbo, hb, hc⟩ := (HL.out.later HB.out.2).cell hlk
            have hab := Option.some.inj hbo
            simp only [Addr.mk.injEq, and_true] at hab
            obtain ⟨rfl, rfl⟩ := hab
            clear hbo
            have c2 := hc k hlk
            have hy6 := HK.out.sz hlk
            have HR : Hid (∀ u, firstR' l j k u ↔ (nthS l j ≠ nthS l k ∧ begP (nthS l k) (nthS l j) ∧ u = tailB (nthS l k) (nthS l j))) := Lib.hid (fun u => Iff.rfl)
            clear hc
            generalize nthS l j = x at *
            generalize nthS l k = y at *
            by_cases e : begP y x
            · have HC := Lib.hid (fun W => cutYes_any e W)
              cases hq : (x.toList == y.toList)
              · have hn : (x.toList != y.toList) = true := by rw [bne, hq]; rfl
                have HRX : Hid (∀ u, firstR' l j k u ↔ u = tailB y x) := Lib.hid (fun u => (HR.out u).trans ⟨fun h => h.2.2, fun h => ⟨fun h2 => (by rw [bytes_eq.2 h2] at hq; cases hq), e, h⟩⟩)
                clear HR e
                generalize tailB y x = z at *
                go_wp2_with (first | (go_at_call 40; refine (HC.out _).mono ?_; rintro e w' ⟨rfl, rfl⟩) | (at_builtin; refine wpList_app1 rfl (.tmp 49) (.tmp 51) rfl Try.underlying23 Try.infoStr rfl (by decide) rfl HB.out rfl rfl ?c1 ?c2 ?c3 ?c4))
                case c1 => simp [Value.oneCell']
                case c2 => unfold maxLen; omega
                case c3 => omega
                intro v4 w4 hb4
                have F := Lib.hid (StLst.put HME.out hql hlk HRX.out hb4)
                clear hb4
                go_wp2_with fail
                go_roundw
                case rel => exact ⟨k + 1, by omega, by go_num, F.out⟩
                case measure => simp [intOf]; omega
              · have hn : (x.toList != y.toList) = false := by rw [bne, hq]; rfl
                have F := Lib.hid (HST.out.skip hlk (fun u h => ((HR.out u).1 h).1 (bytes_eq.1 hq)))
                clear HR e
                generalize tailB y x = z at *
                go_wp2_with (go_at_call 40; refine (HC.out _).mono ?_; rintro e w' ⟨rfl, rfl⟩)
                go_roundw
                case rel => exact ⟨k + 1, by omega, by go_num, F.out⟩
                case measure => simp [intOf]; omega
            · have HC := Lib.hid (fun W => cutNo_any e W)
              have F := Lib.hid (HST.out.skip hlk (fun u h => e ((HR.out u).1 h).2.1))
              clear e
              go_wp2_with (go_at_call 40; refine (HC.out _).mono ?_; rintro e w' ⟨rfl, rfl⟩)
              go_roundw
              case rel => exact ⟨k + 1, by omega, by go_num, F.out⟩
              case measure => simp [intOf]; omega
          · obtain rfl : k = l.length := by omega
            have F := Lib.hid (HST.out.row (by omega))
            go_wp2_with fail
            go_roundw
            case rel => exact ⟨j + 1, by omega, by go_num, F.out⟩
            case measure => simp [intOf]; omega
      · obtain rfl : j = l.length := by omega
        have HO := Lib.hid (fun W h => ordered_any q1 a1 c1' W h (by omega))
        go_wp2_with fail
        refine (HO.out _ (owns_strs HQ1.out.1)).mono ?_
        rintro e w3 ⟨S, hs, hm, aS, cS, rfl, hos, hb3⟩
        have hblk : ∀ x, aS = some x → x.block < w3.heap.size := fun x hx => by
          subst hx
          exact (hos.lt x.block rfl).2
        have HB3 := Lib.hid (Below.now HW.out hb3)
        have HST3 : Hid (StTI l w (.slice none 0 0) (.pointer (some ⟨w3.heap.size, 0, none⟩)) (w3.alloc (.cells #[.slice aS S.length cS] 23))) := Lib.hid
          ⟨[], S, [], w3.heap.size, aS, cS, rfl, trivial, ⟨hs, fun u => (hm u).trans ((HM1.out u).trans (firstR'_all u))⟩, Bld.nil _ _ (Below.now HB3.out (alloc_grownT _ _)), SetsIn.nil _ _, (owns_strs hos).later (alloc_grownT _ _), alloc_at _ _, HB3.out.size, fun g h => (by cases h), fun x hx => ⟨hblk x hx, fun h => (by cases h)⟩, (owns_cap hos).1⟩
        clear hs hm hos hb3 hblk HB3 HO HQ1 HM1 HST HW
        go_wp2_with fail
        go_loopw [10, 11] (fun v p wr => StTI l w v p wr) (fun v _ _ => 2199023255553 - lenOf v)
        case atStart => exact HST3.out
        case round =>
          clear HST3 hql1
          obtain ⟨out, S, vs, box, aS, cS, rfl, hf, hco, hbd, hsi, hst, hbx, hwb, hvb, hab, hcS⟩ := hrel
          obtain ⟨av, cv, rfl⟩ := owns_form hbd.1
          obtain ⟨c1, f1, hbl⟩ := box_cell hbx
          have HF := Lib.hid hf
          have HC := Lib.hid hco
          have HSI := Lib.hid hsi
          have HB := Lib.hid hbd
          have HS := Lib.hid hst
          have HBX := Lib.hid hbx
          have HVB := Lib.hid hvb
          have HAB := Lib.hid hab
          have hol := freshT_len HK.out hf
          have HSS := Lib.hid (comesT_suf HK.out hf hco)
          have hS41 := HK.out.set HSS.out.1.nodup HSS.out.2
          have hvl : vs.length = out.length := by have := hbd.1.1; omega
          have HVL := Lib.hid hvl
          clear hf hco hsi hbd hst hbx hvb hab hvl
          rcases Nat.eq_zero_or_pos S.length with h0 | h0
          · have F : Hid (RetTails l w (.returned (.slice av out.length cv)) wr) := Lib.hid (.inr ⟨HLP.out, out, S, vs, _, _, HF.out, ⟨HC.out, .inl (List.eq_nil_of_length_eq_zero h0)⟩, HSI.out.weak (fun _ _ => trivial), rfl, HB.out.1, HB.out.2⟩)
            have n1 : (decide (0 < (S.length : Int))) = false := decide_eq_false (by omega)
            go_wp2_with fail
            go_ret
            exact F.out
          · have HS0 : Hid (S ≠ []) := Lib.hid (fun h => by rw [h] at h0; simp at h0)
            have HP : Hid (PredAt wr.heap.size 42 #[.pointer (some ⟨box, 0, none⟩)] (fun j => nthL out.reverse j = S) vs wr) := Lib.hid (fun j v hv W hW => by
              have hj : j < out.length := by
                have := (List.getElem?_eq_some_iff.1 hv).1
                rw [HVL.out] at this; exact this
              obtain ⟨adj, cj, hv1, hv2, hv3, _⟩ := HSI.out.2 j (by simpa using hj)
              rw [hv] at hv1
              obtain rfl := Option.some.inj hv1
              have hm := List.mem_reverse.1 (nthL_mem (show j < out.reverse.length by simpa using hj))
              have h41 := (freshT_all HK.out HF.out).2 _ hm
              have hx41 := HK.out.set h41.1.nodup h41.2
              exact tailsOf1_any (nthL out.reverse j) S (some adj) aS cj cS box W (hv2.later hW) (HS.out.later hW) (freshT_pos HF.out hm) h0 (by omega) (by omega) (by rw [hW.cell (p := ⟨box, 0, none⟩) hbl]; exact c1))
            have hCF := fun W hW => containsFuncSets_any 42 #[.pointer (some ⟨box, 0, none⟩)] (fun j => nthL out.reverse j = S) vs av cv W ((owns_cells HB.out.1).later hW) (by rw [HVL.out]; omega) wr.heap.size hW.size (fun j v hv W' hW' => HP.out j v hv W' (hW.trans hW')) (enters_of Try.func42 (by kernel_rfl) rfl)
            rw [HVL.out] at hCF
            have HCF := Lib.hid hCF
            clear hCF
            go_wp2_with fail
            refine (HCF.out _ (Below.refl _ _)).mono ?_
            rintro e w2 ⟨b2, hb2, rfl, hbw2⟩
            have HB2 := Lib.hid hb2
            have HW2 := Lib.hid hbw2
            clear hb2 hbw2 HCF HP
            cases b2
            · have HNO : Hid (∀ i, i < out.length → nthL out.reverse i ≠ S) := Lib.hid (fun i hi h => by have := HB2.out.2 ⟨i, hi, h⟩; cases this)
              have HF2 := Lib.hid (nodup_code HF.out HC.out HS0.out HNO.out)
              have hol2 : out.length + 1 ≤ 2199023255552 := freshT_len HK.out HF2.out
              have hbx2 := (HW2.out.block box hbl).trans HBX.out
              obtain ⟨c12, f12, hbl2⟩ := box_cell hbx2
              have HBX2 := Lib.hid hbx2
              have hw2s := HW2.out.size
              obtain ⟨adS, haS⟩ : ∃ ad, aS = some ad := by
                obtain ⟨b, off, ha, _⟩ := HS.out.cell h0
                exact ⟨_, ha⟩
              subst haS
              have hadS := HAB.out adS rfl
              have HADS := Lib.hid hadS.2
              have hadb := hadS.1
              have HA2 : Hid (∀ o, Below w2.heap.size w2 (w2.alloc o)) := Lib.hid (fun o => alloc_grownT _ _)
              have HBA : Hid (Bld 23 1 w (w2.alloc (.cells #[.slice (some adS) S.length cS] 23)) (.slice av out.length cv) out.length vs) := Lib.hid (HB.out.later (Below.now HW2.out (HA2.out _)))
              have HSI2 : Hid (SetsIn (w2.alloc (.cells #[.slice (some adS) S.length cS] 23)) (fun b => b < box ∧ some b ≠ (Value.slice av out.length cv).ownBlock) (vs ++ [.slice (some adS) S.length cS]) (S :: out).reverse) := Lib.hid (by
                rw [List.reverse_cons]
                exact (HSI.out.later (Below.now HW2.out (HA2.out _))).push ((HS.out.later HW2.out).later (HA2.out _)) hcS hadS)
              have HSW2 : Hid (StrsIn (w2.alloc (.cells #[.slice (some adS) S.length cS] 23)) (some adS) S) := Lib.hid ((HS.out.later HW2.out).later (HA2.out _))
              have HBX3 : Hid ((w2.alloc (.cells #[.slice (some adS) S.length cS] 23)).heap[box]? = some (.cells #[.slice (some adS) S.length cS] 23 (0, 0))) := Lib.hid (((HA2.out _).block box hbl2).trans HBX2.out)
              have N1 : Hid ([Value.slice (some adS) S.length cS].length = 1 * 1) := Lib.hid rfl
              have N2 : Hid (∀ u ∈ [Value.slice (some adS) S.length cS], u.oneCell' = true) := Lib.hid (fun u hu => by rw [List.mem_singleton.1 hu]; rfl)
              have hsz : (w2.alloc (.cells #[.slice (some adS) S.length cS] 23)).heap.size = w2.heap.size + 1 := by simp
              have HSZ := Lib.hid hsz
              clear hsz hbx2 hadS f1 f12 c1
              go_wp2_with (at_builtin; refine wpList_appM rfl (.tmp 64) (.tmp 66) rfl Try.underlying43 Try.infoStrs rfl (by decide) rfl HBA.out rfl (Src.lit _) N1.out N2.out ?e2 ?e3 ?e4)
              case e2 => unfold maxLen; omega
              case e3 => omega
              intro v4 w4 hb4 hg4 ho4
              obtain ⟨g4, c4, rfl⟩ := owns_someS hb4.1 (by omega)
              have hg4b : g4 ≠ box := by
                rcases ho4 with h | h
                · have h2 : (Value.slice av out.length cv).ownBlock = some g4 := by rw [← h]; rfl
                  have := HVB.out g4 h2; omega
                · have h2 : g4 = w2.heap.size + 1 := by simpa [Value.ownBlock] using h
                  omega
              have hgk : ∀ b, b < box → some b ≠ (Value.slice av out.length cv).ownBlock → b ≠ g4 := fun b hb1 hb2 e => by
                subst e
                rcases ho4 with h | h
                · exact hb2 (by rw [← h]; rfl)
                · have h2 : b = w2.heap.size + 1 := by simpa [Value.ownBlock] using h
                  omega
              have H4 := Lib.hid hb4
              have hg4l : g4 < w4.heap.size := (hb4.1.lt g4 rfl).2
              have hgs := hg4.size
              rw [HSZ.out] at hgs
              have HS4 := Lib.hid (HSW2.out.grownR hg4 HADS.out)
              have hbx4 := (hg4.block box (by rw [HSZ.out]; omega) (fun e => by have := HVB.out box e.symm; omega)).trans HBX3.out
              have HSI4 : Hid (SetsIn w4 (fun b => b < w4.heap.size ∧ b ≠ box ∧ b ≠ g4) (vs ++ [.slice (some adS) S.length cS]) (S :: out).reverse) := Lib.hid (HSI2.out.grown hg4 (fun b h => ⟨h.2, by omega, by omega, hgk b h.1 h.2⟩))
              obtain ⟨c14, f14, hbl4⟩ := box_cell hbx4
              have HBX4 := Lib.hid hbx4
              clear hb4 hg4 ho4 hgk hbx4 HSI2 HSW2 HBX3 HBA HSI HB HS HBX2 HBX HAB HVB
              go_wp2_with fail
              go_loopw [13, 70] (fun v i wr => ∃ j : Nat, j ≤ S.length ∧ i = .int .i64 (j : Nat) ∧ StLst (2 * l.length) (nextR3 l S) w4 j 0 v wr) (fun _ i _ => S.length - (intOf i).toNat)
              case atStart => exact ⟨0, Nat.zero_le _, rfl, StLst.start _ _ (Below.refl _ _)⟩
              case round =>
                obtain ⟨j, hj, rfl, hst⟩ := hrel
                have HST := Lib.hid hst
                obtain ⟨q1, hme1, hql1, hb1⟩ := hst
                have HW := Lib.hid hb1.2
                obtain ⟨a1, c1', rfl⟩ := owns_form hb1.1
                have HQ1 := Lib.hid hb1
                have HM1 := Lib.hid hme1
                clear hb1 hme1
                by_cases hlt : j < S.length
                · obtain ⟨bS, oS, hboS, hbS, hcS4⟩ := (HS4.out.later HW.out).cell hlt
                  obtain rfl := Option.some.inj hboS
                  have c3 := hcS4 j hlt
                  have hx6 : (nthS S j).size ≤ 6 := sufP_size HK.out.w6 (HSS.out.2 _ (nthS_mem hlt))
                  clear hcS4 hboS
                  go_wp2_with fail
                  generalize hW : wr = wr0 at *
                  clear hW
                  go_loopw [13, 76] (fun v i wr => ∃ k : Nat, k ≤ l.length ∧ i = .int .i64 (k : Nat) ∧ StLst (2 * l.length) (nextR3 l S) w4 j (2 * k) v wr) (fun _ i _ => l.length - (intOf i).toNat)
                  case atStart => exact ⟨0, Nat.zero_le _, rfl, HST.out⟩
                  case round =>
                    clear HST HW hbS c3 HQ1 HM1 hql1
                    obtain ⟨k, hk, rfl, hst⟩ := hrel
                    have HST := Lib.hid hst
                    obtain ⟨q, hme, hql, hbd⟩ := hst
                    have HME := Lib.hid hme
                    have HBQ := Lib.hid hbd
                    obtain ⟨a3, c3, rfl⟩ := owns_form hbd.1
                    clear hme hbd
                    by_cases hlk : k < l.length
                    · obtain ⟨b', off', hbo, hb, hc⟩ := (HL.out.later (Below.now H4.out.2 HBQ.out.2)).cell hlk
                      subst hbo
                      have c2 := hc k hlk
                      have hy6 := HK.out.sz hlk
                      have H2k : Hid (2 * (k + 1) = 2 * k + 1 + 1) := Lib.hid (by omega)
                      have HR1 := Lib.hid (fun u => nextR3_even (l := l) (X := S) (i := j) (k := k) u)
                      have HR2 := Lib.hid (fun u => nextR3_odd (l := l) (X := S) (i := j) (k := k) u)
                      clear hc
                      generalize nthS S j = x at *
                      generalize nthS l k = y at *
                      by_cases e : begP x y
                      · have HCP := Lib.hid (fun W => cutYes_any e W)
                        have HRX1 : Hid (∀ u, nextR3 l S j (2 * k) u ↔ u = tailB x y) := Lib.hid (fun u => (HR1.out u).trans ⟨fun h => h.2, fun h => ⟨e, h⟩⟩)
                        clear e
                        generalize tailB x y = z at *
                        go_wp2_with (first | (go_at_call_of 40 (Value.string x); refine (HCP.out _).mono ?_; rintro e w' ⟨rfl, rfl⟩) | (at_builtin; refine wpList_app1 rfl (.tmp 87) (.tmp 89) rfl Try.underlying23 Try.infoStr rfl (by decide) rfl HBQ.out rfl rfl ?h1 ?h2 ?h3 ?h4))
                        case h1 => simp [Value.oneCell']
                        case h2 => unfold maxLen; omega
                        case h3 => omega
                        intro v5 w5 hb5
                        have H1 := Lib.hid (StLst.put HME.out hql (by omega) HRX1.out hb5)
                        clear hb5 HST HME HBQ
                        by_cases e2 : begP y x
                        · have HC2 := Lib.hid (fun W => cutYes_any e2 W)
                          by_cases e3 : x.size = 0
                          · have n1 : (x.toList == []) = true := by rw [size_zero e3, Lib.toList_data]; rfl
                            have n2 : (x.toList != []) = false := by rw [size_zero e3, Lib.toList_data]; rfl
                            have n3 : x.toList = [] := by rw [size_zero e3, Lib.toList_data]
                            have F := Lib.hid (H1.out.skip (by omega) (fun u h => ((HR2.out u).1 h).1 e3))
                            clear e2 e3
                            generalize tailB y x = z2 at *
                            go_wp2_with (go_at_call 40; refine (HC2.out _).mono ?_; rintro e w' ⟨rfl, rfl⟩)
                            go_roundw
                            case rel => exact ⟨k + 1, by omega, by go_num, by rw [H2k.out]; exact F.out⟩
                            case measure => simp [intOf]; omega
                          · have hne : x.toList ≠ [] := fun h => e3 (by
                              have h2 : x.data.toList = [] := by rw [← Lib.toList_data]; exact h
                              have h3 : x.data.toList.length = 0 := by rw [h2]; rfl
                              exact h3)
                            have n1 : (x.toList == []) = false := by rw [beq_eq_false_iff_ne]; exact hne
                            have n2 : (x.toList != []) = true := by rw [bne_iff_ne]; exact hne
                            have n3 : x.toList.isEmpty = false := by rw [List.isEmpty_eq_false_iff]; exact hne
                            have HRX : Hid (∀ u, nextR3 l S j (2 * k + 1) u ↔ u = tailB y x) := Lib.hid (fun u => (HR2.out u).trans ⟨fun h => h.2.2, fun h => ⟨e3, e2, h⟩⟩)
                            obtain ⟨q2, hme2, hql2, hbd2⟩ := H1.out
                            have HME2 := Lib.hid hme2
                            have HB2' := Lib.hid hbd2
                            clear hme2 hbd2 e2 e3 hne
                            generalize tailB y x = z2 at *
                            go_wp2_with (first | (go_at_call 40; refine (HC2.out _).mono ?_; rintro e w' ⟨rfl, rfl⟩) | (at_builtin; refine wpList_app1 rfl (.tmp 102) (.tmp 104) rfl Try.underlying23 Try.infoStr rfl (by decide) rfl HB2'.out rfl rfl ?g13 ?g23 ?g33 ?g43))
                            case g13 => simp [Value.oneCell']
                            case g23 => unfold maxLen; omega
                            case g33 => omega
                            intro v6 w6 hb6
                            have F := Lib.hid (StLst.put HME2.out hql2 (by omega) HRX.out hb6)
                            clear hb6
                            go_wp2_with fail
                            go_roundw
                            case rel => exact ⟨k + 1, by omega, by go_num, by rw [H2k.out]; exact F.out⟩
                            case measure => simp [intOf]; omega
                        · have HC2 := Lib.hid (fun W => cutNo_any e2 W)
                          have F := Lib.hid (H1.out.skip (by omega) (fun u h => e2 ((HR2.out u).1 h).2.1))
                          clear e2
                          go_wp2_with (go_at_call 40; refine (HC2.out _).mono ?_; rintro e w' ⟨rfl, rfl⟩)
                          go_roundw
                          case rel => exact ⟨k + 1, by omega, by go_num, by rw [H2k.out]; exact F.out⟩
                          case measure => simp [intOf]; omega
                      · have HCP := Lib.hid (fun W => cutNo_any e W)
                        have H1 := Lib.hid (HST.out.skip (by omega) (fun u h => e ((HR1.out u).1 h).1))
                        clear e HST HME HBQ
                        go_wp2_with fail
                        refine (HCP.out _).mono ?_
                        rintro e w' ⟨rfl, rfl⟩
                        by_cases e2 : begP y x
                        · have HC2 := Lib.hid (fun W => cutYes_any e2 W)
                          by_cases e3 : x.size = 0
                          · have n1 : (x.toList == []) = true := by rw [size_zero e3, Lib.toList_data]; rfl
                            have n2 : (x.toList != []) = false := by rw [size_zero e3, Lib.toList_data]; rfl
                            have n3 : x.toList = [] := by rw [size_zero e3, Lib.toList_data]
                            have F := Lib.hid (H1.out.skip (by omega) (fun u h => ((HR2.out u).1 h).1 e3))
                            clear e2 e3
                            generalize tailB y x = z2 at *
                            go_wp2_with (go_at_call 40; refine (HC2.out _).mono ?_; rintro e w' ⟨rfl, rfl⟩)
                            go_roundw
                            case rel => exact ⟨k + 1, by omega, by go_num, by rw [H2k.out]; exact F.out⟩
                            case measure => simp [intOf]; omega
                          · have hne : x.toList ≠ [] := fun h => e3 (by
                              have h2 : x.data.toList = [] := by rw [← Lib.toList_data]; exact h
                              have h3 : x.data.toList.length = 0 := by rw [h2]; rfl
                              exact h3)
                            have n1 : (x.toList == []) = false := by rw [beq_eq_false_iff_ne]; exact hne
                            have n2 : (x.toList != []) = true := by rw [bne_iff_ne]; exact hne
                            have n3 : x.toList.isEmpty = false := by rw [List.isEmpty_eq_false_iff]; exact hne
                            have HRX : Hid (∀ u, nextR3 l S j (2 * k + 1) u ↔ u = tailB y x) := Lib.hid (fun u => (HR2.out u).trans ⟨fun h => h.2.2, fun h => ⟨e3, e2, h⟩⟩)
                            obtain ⟨q2, hme2, hql2, hbd2⟩ := H1.out
                            have HME2 := Lib.hid hme2
                            have HB2' := Lib.hid hbd2
                            clear hme2 hbd2 e2 e3 hne
                            generalize tailB y x = z2 at *
                            go_wp2_with (first | (go_at_call 40; refine (HC2.out _).mono ?_; rintro e w' ⟨rfl, rfl⟩) | (at_builtin; refine wpList_app1 rfl (.tmp 102) (.tmp 104) rfl Try.underlying23 Try.infoStr rfl (by decide) rfl HB2'.out rfl rfl ?m13 ?m23 ?m33 ?m43))
                            case m13 => simp [Value.oneCell']
                            case m23 => unfold maxLen; omega
                            case m33 => omega
                            intro v6 w6 hb6
                            have F := Lib.hid (StLst.put HME2.out hql2 (by omega) HRX.out hb6)
                            clear hb6
                            go_wp2_with fail
                            go_roundw
                            case rel => exact ⟨k + 1, by omega, by go_num, by rw [H2k.out]; exact F.out⟩
                            case measure => simp [intOf]; omega
                        · have HC2 := Lib.hid (fun W => cutNo_any e2 W)
                          have F := Lib.hid (H1.out.skip (by omega) (fun u h => e2 ((HR2.out u).1 h).2.1))
                          clear e2
                          go_wp2_with (go_at_call 40; refine (HC2.out _).mono ?_; rintro e w' ⟨rfl, rfl⟩)
                          go_roundw
                          case rel => exact ⟨k + 1, by omega, by go_num, by rw [H2k.out]; exact F.out⟩
                          case measure => simp [intOf]; omega
                    · obtain rfl : k = l.length := by omega
                      have F := Lib.hid (HST.out.row (by omega))
                      go_wp2_with fail
                      go_roundw
                      case rel => exact ⟨j + 1, by omega, by go_num, F.out⟩
                      case measure => simp [intOf]; omega
                · obtain rfl : j = S.length := by omega
                  have HO := Lib.hid (fun W h => ordered_any q1 a1 c1' W h (by omega))
                  clear HST
                  go_wp2_with fail
                  refine (HO.out _ (owns_strs HQ1.out.1)).mono ?_
                  rintro e w7 ⟨S7, hs7, hm7, a7, c7, rfl, ho7, hb7⟩
                  have hbw := Below.now HW.out hb7
                  have hw7 := HW.out.size
                  have hw77 := hb7.size
                  obtain ⟨c15, f15, hbl7⟩ := box_cell ((hbw.block box hbl4).trans HBX4.out)
                  have F : Hid (StTI l w (.slice (some ⟨g4, 0, none⟩) (out.length + 1) c4) (.pointer (some ⟨w7.heap.size, 0, none⟩)) ((w7.setCell ⟨box, 0, none⟩ (.slice a7 S7.length c7)).alloc (.cells #[.slice a7 S7.length c7] 23))) := Lib.hid
                    (StTI.next rfl (by rfl) HF2.out ⟨HC.out, hs7, fun u => (hm7 u).trans ((HM1.out u).trans (nextR3_all u))⟩ (H4.out.later hbw) ((HSI4.out.weak (fun b h => ⟨by omega, h.2⟩)).later hbw) (owns_strs ho7) hwb hg4b (fun x hx => by
                      subst hx
                      have h1 := hos_lt ho7
                      exact ⟨h1.2, by omega, by omega⟩) rfl (owns_cap ho7).1)
                  clear hs7 hm7 ho7 hb7 hbw HO HQ1 HM1
                  go_wp2_with fail
                  go_roundw
                  case rel => exact F.out
                  case measure => simp [lenOf]; omega
            · have hmem : S ∈ out := by
                obtain ⟨i, hi, h⟩ := HB2.out.1 rfl
                rw [← h]; exact List.mem_reverse.1 (nthL_mem (by simpa using hi))
              have F : Hid (RetTails l w (.returned (.slice av out.length cv)) w2) := Lib.hid (.inr ⟨HLP.out, out, S, vs, _, _, HF.out, ⟨HC.out, .inr hmem⟩, (HSI.out.weak (fun _ _ => trivial)).later HW2.out, rfl, (HB.out.later HW2.out).1, (HB.out.later HW2.out).2⟩)
              clear hmem
              go_wp2_with fail
              go_ret
              exact F.out
end Go.Proofs.Ytmgdglghjlggnaa
