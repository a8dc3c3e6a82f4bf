/-
  An append to a slice at an offset, with word where the row lies behind it.
-/
import Derived.Test.YtoddpmdjjgnpgaaGreatDoorGra27
import Derived.Test.YtoddpmdjjgnpgaaGreatDoorGra17
import Derived.Test.YtoddpmdjjgnpgaaGreatDoorGra18
import Derived.Maps.StringElems
import Derived.Test.YtoddpmdjjgnpgaaGreatDoorGra08
namespace Go.Proofs.YtoddpmdjjgnpgaaGreatDoor
open Go.RowKit Go.Maps Go.WideMaps Go.WideShapes
set_option linter.unusedVariables false
def keyZ (x : Int) : Lit := .int .i64 x
theorem keyZ_same {a b : Int} : (keyZ a).sameKey (keyZ b) = true ↔ a = b := by
  unfold keyZ Lit.sameKey
  constructor
  · intro h; simpa using h
  · intro h; subst h; simp
def encS (p : StW) : Lit × DataW Unit := (keyZ (p.1 : Nat), .lit (.string p.2.data.toList))
/-- a map holds these words, by state -/
structure WordM (D : DataW Unit) (L : List StW) : Prop where
  nodup : (L.map Prod.fst).Nodup
  es : ∃ es, D = .map es ∧ es.Perm (L.map encS)
theorem WordM.nil : WordM (.map []) [] := ⟨List.nodup_nil, [], rfl, .refl _⟩
theorem WordM.size {D : DataW Unit} {L : List StW} (h : WordM D L) : Maps.size D = L.length := by
  obtain ⟨es, rfl, hp⟩ := h.es
  rw [Maps.size_eq, hp.length_eq]; simp
theorem WordM.has {D : DataW Unit} {L : List StW} (h : WordM D L) {x : Int} : Maps.has D (keyZ x) = true ↔ ∃ p ∈ L, ((p.1 : Nat) : Int) = x := by
  obtain ⟨es, rfl, hp⟩ := h.es
  rw [has_eq, List.any_eq_true]
  constructor
  · rintro ⟨q, hq, hs⟩
    obtain ⟨r, hr, rfl⟩ := List.mem_map.1 (hp.mem_iff.1 hq)
    exact ⟨r, hr, keyZ_same.1 hs⟩
  · rintro ⟨p, hp2, e⟩
    exact ⟨encS p, hp.mem_iff.2 (List.mem_map_of_mem hp2), keyZ_same.2 e⟩
theorem WordM.at {D : DataW Unit} {L : List StW} (h : WordM D L) {p : StW} (hp : p ∈ L) (zd : DataW Unit) : D.atKey (keyZ (p.1 : Nat)) zd = .lit (.string p.2.data.toList) := by
  obtain ⟨es, rfl, he⟩ := h.es
  have hm : encS p ∈ es := he.mem_iff.2 (List.mem_map_of_mem hp)
  unfold DataW.atKey
  simp only []
  cases hf : es.find? (fun q => q.1.sameKey (keyZ (p.1 : Nat))) with
  | none =>
    have := (List.find?_eq_none.1 hf) _ hm
    exact absurd (keyZ_same.2 rfl) this
  | some q =>
    have h1 := List.find?_some hf
    have h2 := List.mem_of_find?_eq_some hf
    obtain ⟨r, hr, rfl⟩ := List.mem_map.1 (he.mem_iff.1 h2)
    have h3 : ((r.1 : Nat) : Int) = (p.1 : Nat) := keyZ_same.1 h1
    have h4 : r = p := by
      obtain ⟨i, hi, rfl⟩ := List.getElem_of_mem hr
      obtain ⟨j, hj, rfl⟩ := List.getElem_of_mem hp
      have h5 : (L.map Prod.fst)[i]'(by simpa using hi) = (L.map Prod.fst)[j]'(by simpa using hj) := by simp; omega
      have hnd := List.pairwise_iff_getElem.1 h.nodup
      rcases Nat.lt_trichotomy i j with e | e | e
      · exact absurd h5 (hnd i j (by simpa using hi) (by simpa using hj) e)
      · subst e; rfl
      · exact absurd h5.symm (hnd j i (by simpa using hj) (by simpa using hi) e)
    rw [h4]; rfl
theorem WordM.new {D : DataW Unit} {L : List StW} (h : WordM D L) {t : Nat} {v : ByteArray} (ht : t ∉ L.map Prod.fst) : WordM (D.put (keyZ (t : Nat)) (.lit (.string v.data.toList))) (L ++ [(t, v)]) := by
  obtain ⟨es, rfl, hp⟩ := h.es
  refine ⟨?_, _, rfl, ?_⟩
  · rw [List.map_append, List.nodup_append]
    refine ⟨h.nodup, by simp, fun a ha b hb => ?_⟩
    have hb2 : b = t := by simpa using hb
    rw [hb2]; exact fun e => ht (e ▸ ha)
  · refine (insert_perm _ _).trans ?_
    have h2 : es.filter (fun q => !q.1.sameKey (keyZ (t : Nat))) = es := List.filter_eq_self.2 fun q hq => by
      obtain ⟨r, hr, rfl⟩ := List.mem_map.1 (hp.mem_iff.1 hq)
      have : (encS r).1.sameKey (keyZ (t : Nat)) = false := Bool.eq_false_iff.2 fun hs => ht (List.mem_map.2 ⟨r, hr, by have h3 : ((r.1 : Nat) : Int) = (t : Nat) := keyZ_same.1 hs; omega⟩)
      rw [this]; rfl
    rw [h2]
    refine (hp.cons _).trans ?_
    rw [List.map_append]
    exact (List.perm_append_singleton _ _).symm
theorem keyedA : Keyed Tryz.prog 3 := int_keyed Tryz.underlying3
theorem keyOkZ {x : Int} (h : -9223372036854775808 ≤ x ∧ x ≤ 9223372036854775807) : keyOf Tryz.prog 3 (.int .i64 x) = some (keyZ x) := keyOf_int_mk Tryz.underlying3 (by
  have h3 : IntKind.i64.min = -9223372036854775808 := by decide
  have h4 : IntKind.i64.max = 9223372036854775807 := by decide
  simp only [Lit.wf, h3, h4, Bool.and_eq_true, decide_eq_true_eq]; omega)
theorem zeroStrA (w : World) : (zeroValue 9).run Tryz.prog w = .ok (.string ⟨#[]⟩) w := by kernel_rfl
abbrev OwnW (w : World) (b m : Nat) (D : DataW Unit) : Prop := w.ownsMap Tryz.prog 3 (plainElem (H := Unit) Tryz.prog 9) b m D
theorem ownW_tight {w : World} {b m : Nat} {D : DataW Unit} (h : OwnW w b m D) : OwnW w b (Maps.size D) D := by
  obtain ⟨es, clock, h1, h2, h3, rfl⟩ := h
  exact ⟨es, clock, h1, h2, by rw [Maps.size_eq, length_sorted, List.length_map, Array.length_toList]; exact Nat.le_refl _, rfl⟩
/-- a word is looked up -/
theorem wpList_lookW (w : World) {ops : Array Oper} {rest : List Oper} {o : Oper} {a : Act} {Q : Exit → Act → World → Prop}
    (hg : o.guard = none) (m x : Operand) (hop : o.op = Op.lookup 104 m x false) (b n : Nat) (D : DataW Unit)
    (hm : a.eval m = .map (some b)) (hown : OwnW w b n D) (key : Value) (kl : Lit) (hx : a.eval x = key) (hkey : keyOf Tryz.prog 3 key = some kl) (s : ByteArray) (hat : ∀ zd, D.atKey kl zd = .lit (.string s.data.toList))
    (hK : wpList Tryz.prog ops Q rest (a.put o.dst (.string s)) w) :
    wpList Tryz.prog ops Q (o :: rest) a w := by
  refine wpList_plain hg fun K' hK' => ?_
  obtain ⟨v, ps, hrun, hv⟩ := hown.lookup keyedA Tryz.underlying104 (zeroStrA w) (plainElem_string Tryz.underlying9 (by decide)) hkey
  obtain ⟨s', rfl, e, _⟩ := plainElem_string_inv Tryz.underlying9 hv
  have e2 := congrArg Prod.fst e
  rw [hat] at e2
  have e3 : s' = s := by
    simp only [DataW.lit.injEq, Lit.string.injEq] at e2
    exact (ba_ext0 e2).symm
  subst e3
  unfold Oper.wp
  simp [execOp, hop, hm, hx, hrun, Result.andThen]
  exact hK' _ _ hK
end Go.Proofs.YtoddpmdjjgnpgaaGreatDoor
namespace Go.Proofs.YtoddpmdjjgnpgaaGreatDoor
set_option linter.unusedVariables false
theorem ltrs_lt {s : ByteArray} {xs : List Nat} (h : xs.map lt97 = s.data.toList) (hx : ∀ x ∈ xs, x < 4) : ltrs s = xs := by
  unfold ltrs
  rw [← h, List.map_map]
  have h1 : xs.map ((fun c : UInt8 => c.toNat - 97) ∘ lt97) = xs.map id := List.map_congr_left fun x hxm => by
    have := hx x hxm
    show (lt97 x).toNat - 97 = x
    unfold lt97; simp; omega
  rw [h1, List.map_id]
section
variable {k : Nat} {N : List Int} {F : List Bool} {L : List StW} {i : Nat}
theorem sha_acc (h : ShaP k N F.length L i 0) (hk : k ≤ 4) {p : StW} (hp : L[i]? = some p) (hf : F.getD p.1 false = true) : accA k N F 0 (ltrs p.2) := by
  obtain ⟨xs, e1, e2, e3⟩ := h.run p (List.mem_of_getElem? hp)
  rw [ltrs_lt e1 (fun x hx => by have := e2 x hx; omega)]
  exact (run_acc xs 0).2 ⟨p.1, e3, hf⟩
theorem sha_least (h : ShaP k N F.length L i 0) (hF : ∀ (j : Nat) (p : StW), j < i → L[j]? = some p → F.getD p.1 false = false) {p : StW} (hp : L[i]? = some p) {v : ByteArray} (hv : wordOkB (k : Nat) v = true) (ha : accA k N F 0 (ltrs v)) : lessS v p.2 = false := by
  obtain ⟨m, q, h1, h2, h3⟩ := h.all hF ha
  rw [(lets_of hv).1] at h3
  rw [Bool.eq_false_iff]
  intro hl
  have h4 := lessS_wt hl
  have h5 : wt p.2.data.toList ≤ wt q.2.data.toList := by
    rcases Nat.lt_or_ge i m with e | e
    · exact Nat.le_of_lt (h.up i m p q e hp h2)
    · have : m = i := by omega
      subst this
      rw [hp] at h2
      cases h2
      exact Nat.le_refl _
  omega
theorem sha_none (h : ShaP k N F.length L L.length 0) (hF : ∀ (j : Nat) (p : StW), j < L.length → L[j]? = some p → F.getD p.1 false = false) (xs : List Nat) : ¬ accA k N F 0 xs := fun ha => by
  obtain ⟨m, q, h1, h2, _⟩ := h.all hF ha
  have := (List.getElem?_eq_some_iff.1 h2).1
  omega
end
end Go.Proofs.YtoddpmdjjgnpgaaGreatDoor
namespace Go.Proofs.YtoddpmdjjgnpgaaGreatDoor
open Go.RowKit
set_option linter.unusedVariables false
section
variable {P : Program}
theorem run_append_off2 {tsl ty T : TypeId} {z : Value} {size bytes : Nat} (ht : P.underlying tsl = some (.slice T)) (hinfo : (P.info? T).map (fun i => (i.zero, i.size, i.bytes)) = some (some z, size, bytes))
    (hzs : z.cells.size = size) (hpos : 0 < size) {w : World} {base : Nat} {v x : Value} {n m : Nat} {xs news : List Value} (hb : ownsOff w base T size v n xs) (hbase : base ≤ w.heap.size) (hS : Go.Src P size tsl x m news w) (h63 : n + m ≤ maxLen) (hbytes : (n + m) * bytes ≤ 140737488355328) :
    ∃ v' w', (Builtin.append_ #[tsl, tsl] ty #[v, x]).run P w = .ok v' w' ∧ ownsOff w' base T size v' (n + m) (xs ++ news) ∧ w.grownBy w' v.ownBlock ∧ ∀ b, v'.ownBlock = some b → v.ownBlock = some b ∨ w.heap.size ≤ b := by
  have hn := hS.newsLen
  have h1 := hS.one
  obtain ⟨i, hi, hz, hsize, hby⟩ := info_parts hinfo
  subst hsize
  subst hby
  have hlen : (xs ++ news).length = (n + m) * i.size := by rw [List.length_append, hb.1, hn, Nat.add_mul]
  have h63' : ((n + m : Nat) : Int) ≤ 9223372036854775807 := by simp only [maxLen] at h63; omega
  have grown : ∀ (base0 : Option Addr) (cap : Nat), cap < n + m → (Builtin.firstCells i.size n (.slice base0 n cap)).run P w.drew = .ok xs.toArray w.drew → ∀ row,
      ∃ v' w', (Builtin.append_ #[tsl, tsl] ty #[.slice base0 n cap, x]).run P w = .ok v' w' ∧ ownsOff w' base T i.size v' (n + m) (xs ++ news) ∧ w.grownBy w' row ∧ ∀ b, v'.ownBlock = some b → w.heap.size ≤ b := by
    intro base0 cap hg hold row
    have hr := run_append_grow_src (P := P) w tsl tsl ty T i z ht hi hz base0 n cap xs hold x m news hS hg h63' (growslice_fits hg hbytes)
    have hge := grownCap_ge w (n + m) cap T
    have hcm : grownCap w (n + m) cap T ≤ maxLen := grownCap_le_maxLen w (n + m) cap T h63
    refine ⟨_, _, hr, ownsOff.of_row ⟨hlen, .inr ⟨w.heap.size, _, _, rfl, hbase, heap_alloc_new w.drew _, hge, hcm, ?_, ?_⟩⟩, ⟨rfl, rfl, rfl, by simp, fun k hk _ => heap_alloc_old w.drew _ hk⟩, fun b hb => by simp [Value.ownBlock] at hb; omega⟩
    · simp only [Array.size_append, List.size_toArray, size_zeroCells, hzs, hlen, ← Nat.add_mul]
      congr 1
      omega
    · simp only [Array.toList_append, List.append_assoc]
      rw [← List.append_assoc, ← hlen]
      exact List.take_left
  rcases hb.2 with ⟨rfl, rfl⟩ | ⟨g, o, cap, cur, rfl, hbg, hg, hnc, hcm, hcs, htake⟩
  · have hxs : xs = [] := List.eq_nil_of_length_eq_zero (by simpa using hb.1)
    subst hxs
    by_cases hm : m = 0
    · subst hm
      have hnn : news = [] := List.eq_nil_of_length_eq_zero (by simpa using hn)
      subst hnn
      refine ⟨.slice none 0 0, w, ?_, hb, ⟨rfl, rfl, rfl, Nat.le_refl _, fun _ _ _ => rfl⟩, fun b hb => by simp [Value.ownBlock] at hb⟩
      simp [Builtin.append_, run_underlying ht, sizeOf, typeInfo, hi, hS.len, hS.cells]
    · obtain ⟨v', w', h1, h2, h3, h4⟩ := grown none 0 (by omega) (by simp [Builtin.firstCells]) _
      exact ⟨v', w', h1, h2, h3, fun b hb => .inr (h4 b hb)⟩
  · by_cases hroom : n + m ≤ cap
    · have hfit : o + n * i.size + news.length ≤ cur.size := by
        rw [hn, Nat.add_assoc, ← Nat.add_mul]
        exact Nat.le_trans (Nat.add_le_add_left (Nat.mul_le_mul_right _ hroom) _) hcs
      have hst := run_storeCells_at P g (o + n * i.size) T news 0 cur w hg (by simpa using hfit) h1
      simp only [Nat.add_zero] at hst
      have hr : (Builtin.append_ #[tsl, tsl] ty #[.slice (some ⟨g, o, none⟩) n cap, x]).run P w = .ok (.slice (some ⟨g, o, none⟩) (n + m) cap) (w.setRow g (cur.toList.take (o + n * i.size) ++ news ++ cur.toList.drop (o + n * i.size + news.length)).toArray) := by
        simp [Builtin.append_, run_underlying ht, sizeOf, typeInfo, hi, hS.len, hroom, hS.cells, Addr.add_lit, hst]
      refine ⟨_, _, hr, ⟨hlen, .inr ⟨g, o, cap, _, rfl, hbg, setRow_heap w g cur _ T _ hg, hroom, hcm, ?_, ?_⟩⟩, ⟨rfl, rfl, rfl, by simp, fun k _ hk => setRow_other w g k _ (fun e => hk (by simp [Value.ownBlock, e]))⟩, fun b hb => .inl hb⟩
      · simp only [List.size_toArray, List.length_append, List.length_take, List.length_drop, Array.length_toList]
        omega
      · have e1 : (cur.toList.take (o + n * i.size)).drop o = xs := by rw [List.drop_take, Nat.add_sub_cancel_left, htake]
        have e2 : (cur.toList.take (o + n * i.size)).length = o + n * i.size := by rw [List.length_take, Array.length_toList]; omega
        have e3 : ((cur.toList.take (o + n * i.size) ++ news ++ cur.toList.drop (o + n * i.size + news.length)).toArray.toList).drop o = xs ++ news ++ cur.toList.drop (o + n * i.size + news.length) := by
          show (cur.toList.take (o + n * i.size) ++ news ++ cur.toList.drop (o + n * i.size + news.length)).drop o = _
          rw [List.append_assoc, List.drop_append_of_le_length (by omega), e1, List.append_assoc]
        rw [e3, ← hlen]
        exact List.take_left
    · have hc := hb.cellAt
      have := run_firstCells_some (P := P) w.drew i.size n ⟨g, o, none⟩ n cap xs hb.1 (fun j u hu => by rw [add_off]; simpa using hc j u hu)
      obtain ⟨v', w', h1, h2, h3, h4⟩ := grown (some ⟨g, o, none⟩) cap (by omega) this _
      exact ⟨v', w', h1, h2, h3, fun b hb => .inr (h4 b hb)⟩
theorem wpList_append_off2 {ops : Array Oper} {rest : List Oper} {o : Oper} {a : Act} {Q : Exit → Act → World → Prop} {T tsl : TypeId} {z : Value} {size bytes : Nat} (hgd : o.guard = none) (s x : Operand)
    (ho : o.op = .call { callee := .builtin .append, args := #[s, x], argTypes := #[tsl, tsl] }) (ht : P.underlying tsl = some (.slice T)) (hinfo : (P.info? T).map (fun i => (i.zero, i.size, i.bytes)) = some (some z, size, bytes))
    (hzs : z.cells.size = size) (hpos : 0 < size) {w : World} {base : Nat} {v u : Value} {n m : Nat} {xs news : List Value} (hs : a.eval s = v) (hb : ownsOff w base T size v n xs) (hbase : base ≤ w.heap.size) (hx : a.eval x = u) (hsrc : Go.Src P size tsl u m news w) (h63 : n + m ≤ maxLen) (hbytes : (n + m) * bytes ≤ 140737488355328)
    (hK : ∀ v' w', ownsOff w' base T size v' (n + m) (xs ++ news) → w.grownBy w' v.ownBlock → (∀ b, v'.ownBlock = some b → v.ownBlock = some b ∨ w.heap.size ≤ b) → wpList P ops Q rest (a.put o.dst v') w') : wpList P ops Q (o :: rest) a w := by
  refine wpList_plain hgd fun K hK' => ?_
  obtain ⟨v', w', hr, h2, h3, h4⟩ := run_append_off2 (P := P) (ty := o.type) ht hinfo hzs hpos hb hbase hsrc h63 hbytes
  unfold Oper.wp
  simp [execOp, ho, resolve, invoke, builtin, hs, hx, hr, Result.andThen]
  exact hK' _ _ (hK v' w' h2 h3 h4)
end
end Go.Proofs.YtoddpmdjjgnpgaaGreatDoor
