/-
  Sorted lists of integers, each once.
-/
import Derived.Test.YtngbimgabcacpaaGreatGro21
import Derived.Test.YtngbimgabcacpaaGreatGro23
import Derived.Test.YtngbimgabcacpaaGreatGro22
import Derived.Test.YtngbimgabcacpaaGreatGro02
import Derived.Test.YtngbimgabcacpaaGreatGro20
import Derived.Lib.SlicesCompact
namespace Go.Proofs.YtngbimgabcacpaaGreat
open Go.RowKit
set_option linter.unusedVariables false
set_option maxRecDepth 20000 in
set_option maxHeartbeats 2000000 in
/-- a number below a large bound -/
theorem l01Below_big (B n : Nat) (a : Option Addr) (l : List UInt8) (cap : Nat) (w : World) (h : CurOk w B a l cap) (hn : 256 < n) (hn2 : n ≤ 2 ^ 40) :
    Calls Tryz.prog 89 #[.pointer (some ⟨B, 0, none⟩), .int .i64 (n : Nat)] w fun e w' => ∃ x : Nat, x < n ∧ e = .returned (.int .i64 ((x : Nat) : Int)) ∧ CurOk w' B a l cap ∧ w.grownBy w' (some B) := by
  have HB := Lib.hid (byte_cur h)
  have HBY := Lib.hid (fun W (h : CurOk W B a l cap) => byte_cur h)
  clear h
  have h0 : ¬ (n : Int) ≤ 0 := by omega
  have h2 : ¬ (n : Int) ≤ 256 := by omega
  have hnz : ((n : Int) == 0) = false := by rw [beq_eq_false_iff_ne]; omega
  have hnz2 : ¬ (n : Int) = 0 := by omega
  go_enter Tryz.func89, Tryz.ntmps89
  go_wp2_with fail
  refine HB.out.mono ?_
  rintro e w2 ⟨x1, hx1, rfl, hc2, hg2⟩
  have HG := Lib.hid hg2
  have HC := Lib.hid hc2
  clear hc2 hg2 HB
  go_wp2_with fail
  refine (HBY.out _ HC.out).mono ?_
  rintro e w3 ⟨x2, hx2, rfl, hc2, hg2⟩
  have HG3 := Lib.hid (grown_tr HG.out hg2)
  have HC3 := Lib.hid hc2
  clear hc2 hg2 HG HC
  go_wp2_with fail
  refine (HBY.out _ HC3.out).mono ?_
  rintro e w4 ⟨x3, hx3, rfl, hc2, hg2⟩
  have HG4 := Lib.hid (grown_tr HG3.out hg2)
  have HC4 := Lib.hid hc2
  clear hc2 hg2 HG3 HC3
  go_wp2_with fail
  refine (HBY.out _ HC4.out).mono ?_
  rintro e w5 ⟨x4, hx4, rfl, hc2, hg2⟩
  have HG5 := Lib.hid (grown_tr HG4.out hg2)
  have HC5 := Lib.hid hc2
  clear hc2 hg2 HG4 HC4
  have s1 : IntKind.i64.wrap ((x1 : Int) * 16777216) = (x1 : Int) * 16777216 := IntWalk.i64_in _ (by omega)
  have s2 : IntKind.i64.wrap ((x2 : Int) * 65536) = (x2 : Int) * 65536 := IntWalk.i64_in _ (by omega)
  have s3 : IntKind.i64.wrap ((x3 : Int) * 256) = (x3 : Int) * 256 := IntWalk.i64_in _ (by omega)
  have s4 : IntKind.i64.wrap ((x1 : Int) * 16777216 + (x2 : Int) * 65536) = (x1 : Int) * 16777216 + (x2 : Int) * 65536 := IntWalk.i64_in _ (by omega)
  have s5 : IntKind.i64.wrap ((x1 : Int) * 16777216 + (x2 : Int) * 65536 + (x3 : Int) * 256) = (x1 : Int) * 16777216 + (x2 : Int) * 65536 + (x3 : Int) * 256 := IntWalk.i64_in _ (by omega)
  have s6 : IntKind.i64.wrap ((x1 : Int) * 16777216 + (x2 : Int) * 65536 + (x3 : Int) * 256 + (x4 : Int)) = (x1 : Int) * 16777216 + (x2 : Int) * 65536 + (x3 : Int) * 256 + (x4 : Int) := IntWalk.i64_in _ (by omega)
  go_wp2_with fail
  go_ret
  exact ⟨(x1 * 16777216 + x2 * 65536 + x3 * 256 + x4) % n, Nat.mod_lt _ (by omega), ret_int (by first | rfl | simp), HC5.out, HG5.out⟩
/-- a number below a bound, whatever bound -/
theorem l01Below_all (B n : Nat) (a : Option Addr) (l : List UInt8) (cap : Nat) (w : World) (h : CurOk w B a l cap) (hn : 1 ≤ n) (hn2 : n ≤ 2 ^ 40) :
    Calls Tryz.prog 89 #[.pointer (some ⟨B, 0, none⟩), .int .i64 (n : Nat)] w fun e w' => ∃ x : Nat, x < n ∧ e = .returned (.int .i64 ((x : Nat) : Int)) ∧ CurOk w' B a l cap ∧ w.grownBy w' (some B) := by
  by_cases h1 : n ≤ 256
  · exact l01Below_any B n a l cap w h hn h1
  · exact l01Below_big B n a l cap w h (by omega) hn2
theorem IntsIn.grownB {w w' : World} {B : Nat} {a : Option Addr} {l : List Int} (h : IntsIn w a l) (hg : w.grownBy w' (some B)) (hne : ∀ x, a = some x → x.block ≠ B) : IntsIn w' a l := by
  rcases h with h | ⟨b, off, ha, hc⟩
  · exact .inl h
  · refine .inr ⟨b, off, ha, fun i hi => ?_⟩
    rw [World.cell?_of_block (w := w) (hg.block b (World.block_lt_of_cell? w _ (hc i hi)) (fun e => hne _ ha (Option.some.inj e)))]
    exact hc i hi
/-- what a drawn number leaves -/
def RetZ (B : Nat) (a : Option Addr) (l : List UInt8) (cap : Nat) (w : World) (e : Ending) (w' : World) : Prop := ∃ z : Int, e = .returned (.int .i64 z) ∧ CurOk w' B a l cap ∧ w.grownBy w' (some B)
set_option maxHeartbeats 1000000 in
theorem l01Pick_any (B : Nat) (a : Option Addr) (l : List UInt8) (cap : Nat) (ls : List Int) (a2 : Option Addr) (cap2 : Nat) (w : World) (h : CurOk w B a l cap) (hl : IntsIn w a2 ls) (hne : ∀ x, a2 = some x → x.block ≠ B) (h1 : 1 ≤ ls.length) (h2 : ls.length ≤ 256) :
    Calls Tryz.prog 115 #[.pointer (some ⟨B, 0, none⟩), .slice a2 ls.length cap2] w (RetZ B a l cap w) := by
  have HB := Lib.hid (l01Below_any B ls.length a l cap w h h1 h2)
  have HL := Lib.hid hl
  have HN := Lib.hid hne
  clear h hl hne
  go_enter Tryz.func115, Tryz.ntmps115
  go_wp2_with fail
  refine HB.out.mono ?_
  rintro e w2 ⟨x, hx, rfl, hc2, hg2⟩
  obtain ⟨b, off, rfl, hb, hcell⟩ := (HL.out.grownB hg2 HN.out).cell hx
  have c1 := hcell x hx
  have HC := Lib.hid hc2
  have HG := Lib.hid hg2
  clear hc2 hg2 HB hcell
  go_wp2_with fail
  go_ret
  exact ⟨_, rfl, HC.out, HG.out⟩
def nearLits : List Int := [9223372036854775807, -9223372036854775808, -1, 0, 1000000000]
theorem intLit_arr (B : Nat) (a : Option Addr) (l : List UInt8) (cap : Nat) (ls : List Int) (arr : Array Value) (n g : Nat) (w : World) (h : CurOk w B a l cap) (hg : w.heap.size = g) (h1 : 1 ≤ n) (h2 : n ≤ 256) (he : (intVals ls).toArray = arr) (hn : ls.length = n) :
    Calls Tryz.prog 115 #[.pointer (some ⟨B, 0, none⟩), .slice (some ⟨g, 0, none⟩) n n] (w.alloc (.cells arr 3)) (RetZ B a l cap w) := by
  subst he hn hg
  have hO : (w.alloc (.cells (intVals ls).toArray 3)).ownsRow w.heap.size 3 1 (.slice (some ⟨w.heap.size, 0, none⟩) ls.length ls.length) ls.length (intVals ls) := World.ownsRow_lit (base := w.heap.size) (size := 1) w (intVals ls).toArray ls.length (Nat.le_refl _) (by unfold maxLen; omega) (by simp [intVals])
  have hI : IntsIn (w.alloc (.cells (intVals ls).toArray 3)) (some ⟨w.heap.size, 0, none⟩) ls := owns_ints (l := ls) hO
  refine (l01Pick_any B a l cap ls (some ⟨w.heap.size, 0, none⟩) ls.length _ (h.alloc _) hI (fun x hx => by
    obtain rfl := Option.some.inj hx
    have := h.lt
    show w.heap.size ≠ B; omega) h1 h2).mono fun _ _ ⟨z, he, hc, hg⟩ => ⟨z, he, hc, grown_tr (grown_alloc ⟨rfl, rfl, rfl, Nat.le_refl _, fun _ _ _ => rfl⟩ _) hg⟩
set_option maxRecDepth 20000 in
set_option maxHeartbeats 4000000 in
theorem l01Near_any (B : Nat) (a : Option Addr) (l : List UInt8) (cap : Nat) (lo d : Nat) (w : World) (h : CurOk w B a l cap) (h1 : lo ≤ 1000) (h2 : d ≤ 200) :
    Calls Tryz.prog 90 #[.pointer (some ⟨B, 0, none⟩), .int .i64 (lo : Nat), .int .i64 ((lo : Int) + (d : Int))] w (RetZ B a l cap w) := by
  have HB := Lib.hid (l01Below_any B 12 a l cap w h (by omega) (by omega))
  have HL := Lib.hid (fun W (h : CurOk W B a l cap) => l01Below_any B (d + 1) a l cap W h (by omega) (by omega))
  clear h
  have e1 : (lo : Int) + (d : Int) - (lo : Int) = (d : Int) := by omega
  have e2 : ¬ (60000 : Int) < (d : Int) := by omega
  have e3 : Hid (((d : Int) + 1) = ((d + 1 : Nat) : Int)) := Lib.hid (by omega)
  have s1 : IntKind.i64.wrap ((lo : Int) - 1) = (lo : Int) - 1 := IntWalk.i64_in _ (by omega)
  have s2 : IntKind.i64.wrap ((lo : Int) + (d : Int) + 1) = (lo : Int) + (d : Int) + 1 := IntWalk.i64_in _ (by omega)
  go_enter Tryz.func90, Tryz.ntmps90
  go_wp2_with fail
  refine HB.out.mono ?_
  rintro e w2 ⟨x, hx, rfl, hc2, hg2⟩
  have HC := Lib.hid hc2
  have HG := Lib.hid hg2
  clear hc2 hg2 HB
  by_cases x0 : x = 0
  · subst x0
    go_wp2_with fail
    go_ret
    exact ⟨_, rfl, HC.out, HG.out⟩
  by_cases x1 : x = 1
  · subst x1
    go_wp2_with fail
    go_ret
    exact ⟨_, rfl, HC.out, HG.out⟩
  by_cases x2 : x = 2
  · subst x2
    go_wp2_with fail
    go_ret
    exact ⟨_, rfl, HC.out, HG.out⟩
  by_cases x3 : x = 3
  · subst x3
    go_wp2_with fail
    go_ret
    exact ⟨_, rfl, HC.out, HG.out⟩
  by_cases x4 : x = 4
  · subst x4
    go_wp2_with fail
    refine (intLit_arr B a l cap nearLits _ 5 _ _ HC.out (by simp) (by decide) (by decide) (by kernel_rfl) (by kernel_rfl)).mono ?_
    rintro e w3 ⟨z, rfl, hc3, hg3⟩
    have HC3 := Lib.hid hc3
    have HG3 := Lib.hid (grown_tr HG.out hg3)
    clear hc3 hg3
    go_wp2_with fail
    go_ret
    exact ⟨_, rfl, HC3.out, HG3.out⟩
  have y0 : (((x : Nat) : Int) == 0) = false := by rw [beq_eq_false_iff_ne]; omega
  have y1 : (((x : Nat) : Int) == 1) = false := by rw [beq_eq_false_iff_ne]; omega
  have y2 : (((x : Nat) : Int) == 2) = false := by rw [beq_eq_false_iff_ne]; omega
  have y3 : (((x : Nat) : Int) == 3) = false := by rw [beq_eq_false_iff_ne]; omega
  have y4 : (((x : Nat) : Int) == 4) = false := by rw [beq_eq_false_iff_ne]; omega
  clear x0 x1 x2 x3 x4
  go_wp2_with fail
  rw [e3.out]
  refine (HL.out _ HC.out).mono ?_
  rintro e w3 ⟨z, hz, rfl, hc3, hg3⟩
  have HC3 := Lib.hid hc3
  have HG3 := Lib.hid (grown_tr HG.out hg3)
  clear hc3 hg3
  go_wp2_with fail
  go_ret
  exact ⟨_, rfl, HC3.out, HG3.out⟩
/-- a table in memory, valid or not -/
def TabA (base : Nat) (w : World) (v : Value) : Prop := ∃ (n : Int) (l : List Int) (a : Option Addr) (cap : Nat), l.length ≤ 2 ^ 30 ∧ v = .agg #[.int .i64 n, .slice a l.length cap] ∧ w.ownsRow base 3 1 (.slice a l.length cap) l.length (intVals l)
theorem TabG.few2 {m : Nat} {l : List Int} (h : TabG m l) : l.length ≤ 1600 ∧ 1 ≤ l.length ∧ 1 ≤ m ∧ m ≤ 40 := by
  obtain ⟨ln, rfl, h⟩ := h
  rw [List.length_map, h.len]
  exact ⟨sq_le h.hi, Nat.mul_pos h.lo h.lo, h.lo, h.hi⟩
theorem TabV.any {base : Nat} {w : World} {v : Value} (h : TabV base w v) : TabA base w v := by
  obtain ⟨m, l, a, cap, h1, h2, h3⟩ := h
  exact ⟨m, l, a, cap, by have h4 := h1.few2; omega, h2, h3⟩
theorem TabA.later {base : Nat} {w w' : World} {v : Value} (h : TabA base w v) (hb : Below w.heap.size w w') : TabA base w' v := by
  obtain ⟨m, l, a, cap, h1, h2, h3⟩ := h
  exact ⟨m, l, a, cap, h1, h2, owns_later h3 hb⟩
theorem TabA.down {base base' : Nat} {w : World} {v : Value} (h : TabA base w v) (hb : base' ≤ base) : TabA base' w v := by
  obtain ⟨m, l, a, cap, h1, h2, h3⟩ := h
  exact ⟨m, l, a, cap, h1, h2, owns_mono h3 hb⟩
theorem TabA.set {w : World} {v x : Value} {g o base : Nat} (h : TabA base w v) (hg : g < base) : TabA base (w.setCell ⟨g, o, none⟩ x) v := by
  obtain ⟨m, l, a, cap, h1, rfl, h3⟩ := h
  exact ⟨m, l, a, cap, h1, rfl, ownsRow_setCell_below h3 hg x⟩
/-- what such a table's draw leaves -/
def RetTA (B : Nat) (a : Option Addr) (l : List UInt8) (cap : Nat) (w : World) (e : Ending) (w' : World) : Prop := ∃ v, e = .returned v ∧ TabA (w.heap.size + 1) w' v ∧ CurOk w' B a l cap ∧ w.grownBy w' (some B)
end Go.Proofs.YtngbimgabcacpaaGreat
namespace Go.Proofs.YtngbimgabcacpaaGreat
open Go.RowKit
set_option linter.unusedVariables false
def ivs (q : List Nat) : List Value := intVals (q.map Int.ofNat)
theorem ivs_app (q : List Nat) (y : Nat) : ivs (q ++ [y]) = ivs q ++ [.int .i64 (y : Nat)] := by simp [ivs, intVals]
theorem ivs_len (q : List Nat) : (ivs q).length = q.length := by simp [ivs, intVals]
theorem ivs_get {q : List Nat} {p : Nat} (h : p < q.length) : (ivs q)[p]? = some (.int .i64 ((q.getD p 0 : Nat) : Int)) := by simp [ivs, intVals, h]
theorem mem_ofNat (q : List Nat) (y : Nat) : ((y : Nat) : Int) ∈ q.map Int.ofNat ↔ y ∈ q := by
  rw [List.mem_map]
  exact ⟨fun ⟨a, ha, e⟩ => by rwa [show a = y from Int.ofNat.inj e] at ha, fun h => ⟨y, h, rfl⟩⟩
theorem cont_ivs (q : List Nat) (y : Nat) : (q.map Int.ofNat).contains ((y : Nat) : Int) = q.contains y := by
  rw [Bool.eq_iff_iff, List.contains_iff_mem, List.contains_iff_mem]; exact mem_ofNat q y
theorem owns_some {w : World} {base n : Nat} {T : TypeId} {v : Value} {xs : List Value} (h : w.ownsRow base T 1 v n xs) (hn : 0 < n) : ∃ g cap, v = .slice (some ⟨g, 0, none⟩) n cap := by
  rcases h.2 with ⟨_, h0⟩ | ⟨g, cap, cur, hv, _⟩
  · omega
  · exact ⟨g, cap, hv⟩
theorem nats_cell {w : World} {a : Option Addr} {z : List Nat} (h : NatsIn w a z) {j : Nat} (hj : j < z.length) : ∃ b off, a = some ⟨b, off, none⟩ ∧ ∀ W, Below w.heap.size w W → W.cell? ⟨b, off + j, none⟩ = some (.int .i64 ((z[j] : Nat) : Int)) := by
  obtain ⟨b, off, ha, hb, hc⟩ := IntsIn.cell h (i := j) (by simpa using hj)
  refine ⟨b, off, ha, fun W hW => ?_⟩
  rw [hW.cell hb, hc j (by simpa using hj), nthZ_lt (by simpa using hj)]
  simp
theorem map_toNat' (l : List Nat) : (l.map Int.ofNat).map Int.toNat = l := by rw [List.map_map]; exact List.map_id'' (fun x => rfl) l
theorem Tryz.infoBool : (Tryz.prog.info? 4).map (fun i => (i.zero, i.size, i.bytes)) = some (some (.bool false), 1, 1) := by kernel_rfl
/-- what a call hands back that makes a row of bools -/
def RetBools (m : Nat) (f : Nat → Bool) (w : World) (e : Ending) (w' : World) : Prop :=
  ∃ g, e = .returned (.slice (some ⟨g, 0, none⟩) m m) ∧ BoolRow 4 w' w.heap.size g m f ∧ Below w.heap.size w w'
end Go.Proofs.YtngbimgabcacpaaGreat
namespace Go.Proofs.YtngbimgabcacpaaGreat
open Go.RowKit
set_option linter.unusedVariables false
def idemB (m : Nat) (ln : List Nat) (i : Nat) : Bool := decide (tm m ln i i = i)
def idemF (n : Int) (l : List Int) : List Int := thoseL n l (idemB n.toNat (l.map Int.toNat))
theorem idemB_of {m : Nat} {ln : List Nat} {i : Nat} {b : Bool} (h : (((tm m ln i i : Nat) : Int) == ((i : Nat) : Int)) = b) : idemB m ln i = b := by
  cases b <;> simp at h <;> simp [idemB] <;> omega
end Go.Proofs.YtngbimgabcacpaaGreat
namespace Go.Proofs.YtngbimgabcacpaaGreat
open Go.RowKit
set_option linter.unusedVariables false
/-- a function value that answers p for two elements below m, in every world that is as w below B -/
def PredEl2 (B : Nat) (g : Nat) (caps : Array Value) (p : Nat → Nat → Bool) (m : Nat) (w : World) : Prop :=
  ∀ i k, i < m → k < m → ∀ W, Below B w W → Calls Tryz.prog g (#[.int .i64 (i : Nat), .int .i64 (k : Nat)] ++ caps) W fun e W' => e = .returned (.bool (p i k)) ∧ Below W.heap.size W W'
/-- the elements below c that began a class -/
def numF (p : Nat → Nat → Bool) : Nat → List Nat
  | 0 => []
  | c + 1 => if (numF p c).any (p c) then numF p c else numF p c ++ [c]
/-- the place of the first class, or -1 -/
def numI (p : Nat → Nat → Bool) (F : List Nat) (j : Nat) : Int := match F.findIdx? (p j) with | some i => (i : Nat) | none => -1
/-- the number that is given -/
def numV (p : Nat → Nat → Bool) (F : List Nat) (j : Nat) : Int := if numI p F j < 0 then ((F.length : Nat) : Int) else numI p F j
def numO (p : Nat → Nat → Bool) (c : Nat) : List Int := (List.range c).map fun j => numV p (numF p j) j
theorem numO_zero (p : Nat → Nat → Bool) : numO p 0 = [] := rfl
theorem numO_succ (p : Nat → Nat → Bool) (c : Nat) : numO p (c + 1) = numO p c ++ [numV p (numF p c) c] := by simp [numO, List.range_succ]
theorem numO_len (p : Nat → Nat → Bool) (c : Nat) : (numO p c).length = c := by simp [numO]
theorem numF_lt (p : Nat → Nat → Bool) : ∀ c, ∀ f ∈ numF p c, f < c
  | 0, f, hf => by simp [numF] at hf
  | c + 1, f, hf => by
    unfold numF at hf
    split at hf
    · have := numF_lt p c f hf; omega
    · rcases List.mem_append.1 hf with hf | hf
      · have := numF_lt p c f hf; omega
      · rw [List.mem_singleton.1 hf]; omega
theorem numF_len (p : Nat → Nat → Bool) : ∀ c, (numF p c).length ≤ c
  | 0 => by simp [numF]
  | c + 1 => by
    have := numF_len p c
    unfold numF
    split
    · omega
    · rw [List.length_append]; simp; omega
theorem numI_neg (p : Nat → Nat → Bool) (F : List Nat) (j : Nat) : (numI p F j < 0) ↔ F.any (p j) = false := by
  unfold numI
  cases h : F.findIdx? (p j)
  · rw [List.findIdx?_eq_none_iff] at h
    have : F.any (p j) = false := by rw [List.any_eq_false]; intro x hx; simp [h x hx]
    simp [this]
  · rename_i i
    rw [List.findIdx?_eq_some_iff_getElem] at h
    obtain ⟨hi, hp, _⟩ := h
    have : F.any (p j) = true := by rw [List.any_eq_true]; exact ⟨F[i], List.getElem_mem hi, hp⟩
    simp [this]
theorem numF_succ (p : Nat → Nat → Bool) (c : Nat) : numF p (c + 1) = if (numF p c).any (p c) then numF p c else numF p c ++ [c] := rfl
theorem numF_yes {p : Nat → Nat → Bool} {c : Nat} (h : ¬ numI p (numF p c) c < 0) : numF p (c + 1) = numF p c := by
  rw [numI_neg] at h
  have h2 : (numF p c).any (p c) = true := by cases hh : (numF p c).any (p c) <;> simp_all
  rw [numF_succ, if_pos h2]
theorem numF_no {p : Nat → Nat → Bool} {c : Nat} (h : numI p (numF p c) c < 0) : numF p (c + 1) = numF p c ++ [c] := by
  rw [numI_neg] at h
  rw [numF_succ, if_neg (by simp [h])]
theorem numV_yes {p : Nat → Nat → Bool} {F : List Nat} {j : Nat} (h : ¬ numI p F j < 0) : numV p F j = numI p F j := by unfold numV; rw [if_neg h]
theorem numV_no {p : Nat → Nat → Bool} {F : List Nat} {j : Nat} (h : numI p F j < 0) : numV p F j = ((F.length : Nat) : Int) := by unfold numV; rw [if_pos h]
theorem idxZ_num (p : Nat → Nat → Bool) (F : List Nat) (c : Nat) : idxZ (fun x => p c x.toNat) (F.map Int.ofNat) = numI p F c := by
  unfold idxZ numI
  rw [List.findIdx?_map]
  rfl
/-- the closure that is handed to IndexFunc -/
theorem sameK (B g : Nat) (caps : Array Value) (p : Nat → Nat → Bool) (m c : Nat) (w w1 : World) (bf bi : Nat) (h : PredEl2 B g caps p m w) (hB : B ≤ w.heap.size) (hw : Below w.heap.size w w1) (hc : c < m) (F : List Nat) (hF : ∀ f ∈ F, f < m)
    (h1 : w1.cell? ⟨bf, 0, none⟩ = some (.func (.func g) #[] caps)) (h2 : w1.cell? ⟨bi, 0, none⟩ = some (.int .i64 (c : Nat))) (eg : ∀ args w, (callFunc g args).run Tryz.prog w = .ok (.enter g args) w) :
    PredInts w1.heap.size 76 #[.pointer (some ⟨bf, 0, none⟩), .pointer (some ⟨bi, 0, none⟩)] (fun x => p c x.toNat) (F.map Int.ofNat) w1 := by
  intro j hj W hW
  have hj' : j < F.length := by simpa using hj
  have hn : nthZ (F.map Int.ofNat) j = ((F[j] : Nat) : Int) := by rw [nthZ_lt hj]; simp
  rw [hn]
  have hfm : F[j] < m := hF _ (List.getElem_mem hj')
  have g1 : W.cell? ⟨bf, 0, none⟩ = some (.func (.func g) #[] caps) := by rw [hW.cell (World.block_lt_of_cell? w1 _ h1)]; exact h1
  have g2 : W.cell? ⟨bi, 0, none⟩ = some (.int .i64 (c : Nat)) := by rw [hW.cell (World.block_lt_of_cell? w1 _ h2)]; exact h2
  have HC := Lib.hid (h c F[j] hc hfm W ((hw.mono hB).trans (hW.mono (Nat.le_trans hB hw.size))))
  generalize F[j] = f at *
  clear h1 h2 hW hw h hn
  go_enter Tryz.func76, Tryz.ntmps76
  go_wp2_with fail
  refine HC.out.mono ?_
  rintro e w2 ⟨rfl, hb2⟩
  go_wp2_with fail
  go_ret
  exact ⟨by simp, hb2⟩
theorem below_of_grownN {w wr wr' : World} {own : Option Nat} (h : Below w.heap.size w wr) (hg : wr.grownBy wr' own) (ho : ∀ k, own = some k → w.heap.size ≤ k) : Below w.heap.size w wr' := h.grown hg h.size ho
/-- two lists that are being built, apart from each other -/
def Two (w wr : World) (v : Value) (xs : List Int) (u : Value) (F : List Nat) : Prop :=
  Bld 3 1 w wr v xs.length (intVals xs) ∧ Bld 3 1 w wr u F.length (ivs F) ∧ ∀ k, v.ownBlock = some k → u.ownBlock ≠ some k
theorem Two.later {w wr wr' : World} {v u : Value} {xs : List Int} {F : List Nat} (h : Two w wr v xs u F) (hb : Below wr.heap.size wr wr') : Two w wr' v xs u F := ⟨h.1.later hb, h.2.1.later hb, h.2.2⟩
theorem kept_of {T : TypeId} {w wr wr' : World} {v : Value} {n : Nat} {xs : List Value} {own : Option Nat} (h : Bld T 1 w wr v n xs) (hg : wr.grownBy wr' own) (hne : ∀ k, v.ownBlock = some k → own ≠ some k) (ho : ∀ k, own = some k → w.heap.size ≤ k) : Bld T 1 w wr' v n xs := by
  refine ⟨h.1.kept hg ?_, below_of_grownN h.2 hg ho⟩
  cases hv : v.ownBlock with
  | none => exact .inl rfl
  | some k => exact .inr fun e => hne k hv (e.symm ▸ rfl)
theorem Two.putV {w wr w' : World} {v v' u : Value} {xs : List Int} {F : List Nat} {y : Int} (h : Two w wr v xs u F) (hb : Bld 3 1 w w' v' (xs.length + 1) (intVals xs ++ [.int .i64 y])) (hg : (wr.alloc (.cells #[.int .i64 y] 3)).grownBy w' v.ownBlock)
    (ho : v'.ownBlock = v.ownBlock ∨ v'.ownBlock = some (wr.alloc (.cells #[.int .i64 y] 3)).heap.size) : Two w w' v' (xs ++ [y]) u F := by
  have hal : Below wr.heap.size wr (wr.alloc (.cells #[.int .i64 y] 3)) := (Below.refl _ _).alloc (Nat.le_refl _) _
  refine ⟨?_, kept_of (h.2.1.later hal) hg (fun k hk e => h.2.2 k e hk) (fun k hk => (h.1.1.lt k hk).1), fun k hk e => ?_⟩
  · rw [List.length_append]; unfold intVals at *; rw [List.map_append]; exact hb
  · rcases ho with h1 | h1
    · exact h.2.2 k (h1 ▸ hk) e
    · rw [h1] at hk
      have h2 := Option.some.inj hk
      have h3 := (h.2.1.1.lt k e).2
      simp at h2; omega
theorem Two.putU {w wr w' : World} {v u u' : Value} {xs : List Int} {F : List Nat} {y : Nat} (h : Two w wr v xs u F) (hb : Bld 3 1 w w' u' (F.length + 1) (ivs F ++ [.int .i64 (y : Nat)])) (hg : (wr.alloc (.cells #[.int .i64 (y : Nat)] 3)).grownBy w' u.ownBlock)
    (ho : u'.ownBlock = u.ownBlock ∨ u'.ownBlock = some (wr.alloc (.cells #[.int .i64 (y : Nat)] 3)).heap.size) : Two w w' v xs u' (F ++ [y]) := by
  have hal : Below wr.heap.size wr (wr.alloc (.cells #[.int .i64 (y : Nat)] 3)) := (Below.refl _ _).alloc (Nat.le_refl _) _
  refine ⟨kept_of (h.1.later hal) hg (fun k hk e => h.2.2 k hk e) (fun k hk => (h.2.1.1.lt k hk).1), ?_, fun k hk e => ?_⟩
  · rw [List.length_append, ivs_app]; exact hb
  · rcases ho with h1 | h1
    · exact h.2.2 k hk (h1 ▸ e)
    · rw [h1] at e
      have h2 := Option.some.inj e
      have h3 := (h.1.1.lt k hk).2
      simp at h2; omega
set_option maxRecDepth 100000 in
set_option maxHeartbeats 2000000 in
theorem numbered_any (B g : Nat) (caps : Array Value) (p : Nat → Nat → Bool) (m : Nat) (w : World) (hm : m ≤ 1000) (h : PredEl2 B g caps p m w) (hB : B ≤ w.heap.size) (eg : ∀ args w, (callFunc g args).run Tryz.prog w = .ok (.enter g args) w) :
    Calls Tryz.prog 39 #[.int .i64 m, .func (.func g) #[] caps] w (RetSl 3 1 (numO p m).length (intVals (numO p m)) w) := by
  have HP := Lib.hid h
  have EG := Lib.hid eg
  clear h eg
  go_enter Tryz.func39, Tryz.ntmps39
  go_wp2_with fail
  obtain ⟨w1, hw1⟩ : ∃ w1, w1 = w.alloc (.cells #[.func (.func g) #[] caps] 55) := ⟨_, rfl⟩
  have hb1 : Below w.heap.size w w1 := by rw [hw1]; exact (Below.refl _ _).alloc (Nat.le_refl _) _
  have hx0 : ∀ W, Below w1.heap.size w1 W → W.cell? ⟨w.heap.size, 0, none⟩ = some (.func (.func g) #[] caps) := fun W hW => by rw [hW.cell (by rw [hw1]; simp), hw1]; simp
  rw [← hw1]
  have HB := Lib.hid hb1
  have HS : Hid (Two w1 w1 (.slice none 0 0) [] (.slice none 0 0) []) := ⟨Bld.nil _ _ (Below.refl _ _), Bld.nil _ _ (Below.refl _ _), fun k hk => by simp [Value.ownBlock] at hk⟩
  have X0 := Lib.hid hx0
  clear hw1 hb1 hx0
  go_loopw [5, 6, 10] (fun v u i wr => ∃ c : Nat, c ≤ m ∧ i = .int .i64 c ∧ Two w1 wr v (numO p c) u (numF p c)) (fun _ _ i _ => m - (intOf i).toNat)
  case atStart => exact ⟨0, Nat.zero_le _, rfl, HS.out⟩
  case round =>
    clear HS
    obtain ⟨c, hcm, rfl, ht⟩ := hrel
    have HT := Lib.hid ht
    clear ht
    by_cases hlt : c < m
    · have hfl := numF_len p c
      have hol := numO_len p c
      have HOL := Lib.hid hol
      obtain ⟨ua, uc, rfl⟩ := owns_form HT.out.2.1.1
      have HT2 := Lib.hid (HT.out.later ((Below.refl _ _).alloc (Nat.le_refl _) (.cells #[.int .i64 (c : Nat)] 3)))
      have hbw := HT.out.1.2
      clear hol
      have hp := sameK B g caps p m c w (wr.alloc (.cells #[.int .i64 (c : Nat)] 3)) w.heap.size wr.heap.size HP.out hB (Below.now HB.out HT2.out.1.2) hlt (numF p c) (fun f hf => Nat.lt_trans (numF_lt p c f hf) hlt) (X0.out _ HT2.out.1.2) (by simp) EG.out
      have hC := indexFuncInts_any 76 #[.pointer (some ⟨w.heap.size, 0, none⟩), .pointer (some ⟨wr.heap.size, 0, none⟩)] (fun x => p c x.toNat) ((numF p c).map Int.ofNat) ua uc (wr.alloc (.cells #[.int .i64 (c : Nat)] 3)) (owns_ints (l := (numF p c).map Int.ofNat) HT2.out.2.1.1) (by rw [List.length_map]; omega) _ (Nat.le_refl _) hp (enters_of Tryz.func76 (by kernel_rfl) rfl)
      rw [idxZ_num, List.length_map] at hC
      have HC := Lib.hid hC
      have HR := Lib.hid (numO_succ p c)
      have HY := Lib.hid (@numF_yes p c)
      have HN := Lib.hid (@numF_no p c)
      have HVY := Lib.hid (@numV_yes p (numF p c) c)
      have HVN := Lib.hid (@numV_no p (numF p c) c)
      clear hC hp hbw
      generalize numI p (numF p c) c = q at *
      generalize numF p c = F at *
      go_wp2_with fail
      refine HC.out.mono ?_
      rintro e w3 ⟨rfl, hb3⟩
      have HT3 := Lib.hid (HT2.out.later hb3)
      have hci : w3.cell? ⟨wr.heap.size, 0, none⟩ = some (.int .i64 (c : Nat)) := by rw [hb3.cell (by simp)]; simp
      clear hb3 HC HT2 HT
      by_cases hq : q < 0
      · have HF1 := Lib.hid (HN.out hq)
        have HV1 := Lib.hid (HVN.out hq)
        have HO3 := Lib.hid HT3.out.2.1
        have HSR := Lib.hid (Src.lit (w := w3) (T := 3) (c := 1) (m := 1) [.int .i64 (c : Nat)])
        have HO4 := Lib.hid (HO3.out.later ((Below.refl _ _).alloc (Nat.le_refl _) (.cells #[.int .i64 (c : Nat)] 3)))
        go_wp2_with (at_builtin; refine wpList_appM rfl (.tmp 20) (.tmp 22) rfl Tryz.underlying23 Tryz.infoInt rfl (by decide) rfl HO4.out rfl HSR.out (by rfl) ?a1 ?a2 ?a3 ?a4)
        case a1 => simp [Value.oneCell']
        case a2 => unfold maxLen; omega
        case a3 => omega
        intro v4 w4 hb4 hg4 ho4
        have HT4 := Lib.hid (HT3.out.putU hb4 hg4 (by simpa using ho4))
        clear hb4 hg4 ho4 HT3 HO3 HO4 HSR hci
        have HSR := Lib.hid (Src.lit (w := w4) (T := 3) (c := 1) (m := 1) [.int .i64 ((F.length : Nat) : Int)])
        have HO5 := Lib.hid (HT4.out.1.later ((Below.refl _ _).alloc (Nat.le_refl _) (.cells #[.int .i64 ((F.length : Nat) : Int)] 3)))
        go_wp2_with (at_builtin; refine wpList_appM rfl (.tmp 24) (.tmp 26) rfl Tryz.underlying23 Tryz.infoInt rfl (by decide) rfl HO5.out rfl HSR.out (by rfl) ?b1 ?b2 ?b3 ?b4)
        case b1 => simp [Value.oneCell']
        case b2 => rw [HOL.out]; unfold maxLen; omega
        case b3 => rw [HOL.out]; omega
        intro v5 w5 hb5 hg5 ho5
        have HT5 : Hid (Two w1 w5 v5 (numO p (c + 1)) v4 (numF p (c + 1))) := Lib.hid (by
          rw [HR.out, HV1.out, HF1.out]
          exact HT4.out.putV hb5 hg5 (by simpa using ho5))
        clear hb5 hg5 ho5
        go_wp2_with fail
        go_roundw
        case rel => exact ⟨c + 1, by omega, by go_num, HT5.out⟩
        case measure => simp [intOf]; omega
      · have HF1 := Lib.hid (HY.out (by omega))
        have HV1 := Lib.hid (HVY.out (by omega))
        have HSR := Lib.hid (Src.lit (w := w3) (T := 3) (c := 1) (m := 1) [.int .i64 q])
        have HO5 := Lib.hid (HT3.out.1.later ((Below.refl _ _).alloc (Nat.le_refl _) (.cells #[.int .i64 q] 3)))
        go_wp2_with (at_builtin; refine wpList_appM rfl (.tmp 24) (.tmp 26) rfl Tryz.underlying23 Tryz.infoInt rfl (by decide) rfl HO5.out rfl HSR.out (by rfl) ?d1 ?d2 ?d3 ?d4)
        case d1 => simp [Value.oneCell']
        case d2 => rw [HOL.out]; unfold maxLen; omega
        case d3 => rw [HOL.out]; omega
        intro v5 w5 hb5 hg5 ho5
        have HT5 : Hid (Two w1 w5 v5 (numO p (c + 1)) (.slice ua F.length uc) (numF p (c + 1))) := Lib.hid (by
          rw [HR.out, HV1.out, HF1.out]
          exact HT3.out.putV hb5 hg5 (by simpa using ho5))
        clear hb5 hg5 ho5
        go_wp2_with fail
        go_roundw
        case rel => exact ⟨c + 1, by omega, by go_num, HT5.out⟩
        case measure => simp [intOf]; omega
    · obtain rfl : c = m := by omega
      have F2 : Hid (∀ v u wr, Two w1 wr v (numO p c) u (numF p c) → RetSl 3 1 (numO p c).length (intVals (numO p c)) w (.returned v) wr) := fun v u wr h => (h.1.since HB.out).ret
      have F3 := Lib.hid (F2.out _ _ _ HT.out)
      obtain ⟨va, vc, rfl⟩ := owns_form HT.out.1.1
      go_wp2_with fail
      go_ret
      exact F3.out
section
variable {p : Nat → Nat → Bool}
theorem numF_pre : ∀ {a b : Nat}, a ≤ b → numF p a <+: numF p b
  | a, 0, h => by
    obtain rfl : a = 0 := by omega
    exact List.prefix_refl _
  | a, b + 1, h => by
    by_cases e : a = b + 1
    · subst e; exact List.prefix_refl _
    · refine (numF_pre (show a ≤ b by omega)).trans ?_
      rw [numF_succ]
      split
      · exact List.prefix_refl _
      · exact List.prefix_append _ _
theorem numI_pre {F F' : List Nat} (h : F <+: F') {j : Nat} (hq : ¬ numI p F j < 0) : numI p F' j = numI p F j := by
  obtain ⟨t, rfl⟩ := h
  unfold numI at *
  cases hf : F.findIdx? (p j)
  · rw [hf] at hq; simp at hq
  · rename_i i
    rw [List.findIdx?_append, hf]; rfl
theorem numI_app {F : List Nat} {c j : Nat} (h : numI p F j < 0) : numI p (F ++ [c]) j = if p j c = true then ((F.length : Nat) : Int) else -1 := by
  unfold numI at *
  cases hf : F.findIdx? (p j)
  · rw [List.findIdx?_append, hf]
    cases hp : p j c
    · simp [List.findIdx?_cons, hp]
    · simp [List.findIdx?_cons, hp]
  · rename_i i
    rw [hf] at h; simp at h; omega
theorem numI_full {m : Nat} (hr : ∀ i, i < m → p i i = true) {j : Nat} (hj : j < m) : numI p (numF p m) j = numV p (numF p j) j := by
  by_cases h : numI p (numF p j) j < 0
  · rw [numV_no h]
    have h1 : numI p (numF p (j + 1)) j = ((numF p j).length : Int) := by rw [numF_no h, numI_app h, if_pos (hr j hj)]
    rw [numI_pre (numF_pre (show j + 1 ≤ m from hj)) (by rw [h1]; omega), h1]
  · rw [numV_yes h]
    exact numI_pre (numF_pre (Nat.le_of_lt hj)) h
theorem numO_full {m : Nat} (hr : ∀ i, i < m → p i i = true) : numO p m = (List.range m).map (numI p (numF p m)) := by
  unfold numO
  apply List.map_congr_left
  intro j hj
  exact (numI_full hr (List.mem_range.1 hj)).symm
end
end Go.Proofs.YtngbimgabcacpaaGreat
namespace Go.Proofs.YtngbimgabcacpaaGreat
open Go.RowKit
set_option linter.unusedVariables false
theorem sorted_extZ : ∀ (l l' : List Int), l.Pairwise (· < ·) → l'.Pairwise (· < ·) → (∀ x, x ∈ l ↔ x ∈ l') → l = l'
  | [], [], _, _, _ => rfl
  | [], b :: l', _, _, h => absurd ((h b).2 (by simp)) (by simp)
  | a :: l, [], _, _, h => absurd ((h a).1 (by simp)) (by simp)
  | a :: l, b :: l', h1, h2, h => by
    rw [List.pairwise_cons] at h1 h2
    have e : a = b := by
      have ha := (h a).1 (by simp)
      have hb := (h b).2 (by simp)
      rcases List.mem_cons.1 ha with e | ha
      · exact e
      · rcases List.mem_cons.1 hb with e | hb
        · exact e.symm
        · have := h1.1 b hb; have := h2.1 a ha; omega
    subst e
    congr 1
    refine sorted_extZ l l' h1.2 h2.2 fun x => ⟨fun hx => ?_, fun hx => ?_⟩
    · rcases List.mem_cons.1 ((h x).1 (by simp [hx])) with e | hx'
      · have := h1.1 x hx; omega
      · exact hx'
    · rcases List.mem_cons.1 ((h x).2 (by simp [hx])) with e | hx'
      · have := h2.1 x hx; omega
      · exact hx'
theorem at_bang {zs : List Int} {j : Nat} (h : j < zs.length) : zs.toArray[j]! = zs[j] := by
  rw [getElem!_pos _ _ (by simpa using h)]; simp
theorem mono_at {zs : List Int} (h : zs.Pairwise (· ≤ ·)) {i j : Nat} (hij : i ≤ j) (hj : j < zs.length) : zs[i]'(by omega) ≤ zs[j] := by
  rcases Nat.lt_or_ge i j with hlt | hge
  · exact (List.pairwise_iff_getElem.1 h) i j (by omega) hj hlt
  · have : i = j := by omega
    subst this; exact Int.le_refl _
theorem compact_lt {zs : List Int} (h : zs.Pairwise (· ≤ ·)) : (Go.Lib.compact zs).Pairwise (· < ·) := by
  unfold Go.Lib.compact Go.Lib.compactUpTo
  rw [List.pairwise_map]
  have h0 : ((List.range zs.length).filter (Go.Lib.keeps zs.toArray)).Pairwise (· < ·) := List.Pairwise.filter _ List.pairwise_lt_range
  refine List.Pairwise.imp_of_mem (fun {i j} hi hj hij => ?_) h0
  have hi' := List.mem_filter.1 hi
  have hj' := List.mem_filter.1 hj
  have hjl := List.mem_range.1 hj'.1
  have hk : zs.toArray[j]! ≠ zs.toArray[j - 1]! := by
    have := hj'.2
    simp only [Go.Lib.keeps, decide_eq_true_eq] at this
    rcases this with e | e
    · omega
    · exact e
  rw [at_bang (by omega), at_bang (by omega)] at hk ⊢
  have h1 := mono_at h (i := i) (j := j - 1) (by omega) (by omega)
  have h2 := mono_at h (i := j - 1) (j := j) (by omega) (by omega)
  omega
theorem compact_mem (zs : List Int) (x : Int) : x ∈ Go.Lib.compact zs ↔ x ∈ zs := by
  unfold Go.Lib.compact Go.Lib.compactUpTo
  constructor
  · intro h
    obtain ⟨i, hi, rfl⟩ := List.mem_map.1 h
    have := List.mem_range.1 (List.mem_filter.1 hi).1
    rw [at_bang this]
    exact List.getElem_mem this
  · intro h
    have key : ∀ i, i < zs.length → zs.toArray[i]! ∈ List.map (zs.toArray[·]!) ((List.range zs.length).filter (Go.Lib.keeps zs.toArray)) := by
      intro i
      induction i with
      | zero => exact fun h => List.mem_map.2 ⟨0, List.mem_filter.2 ⟨List.mem_range.2 h, by simp [Go.Lib.keeps]⟩, rfl⟩
      | succ i ih =>
        intro hi
        by_cases he : zs.toArray[i + 1]! = zs.toArray[i]!
        · rw [he]; exact ih (by omega)
        · exact List.mem_map.2 ⟨i + 1, List.mem_filter.2 ⟨List.mem_range.2 hi, by simp only [Go.Lib.keeps, decide_eq_true_eq]; exact .inr he⟩, rfl⟩
    obtain ⟨i, hi, rfl⟩ := List.getElem_of_mem h
    rw [← at_bang hi]
    exact key i hi
def sortL (l : List Int) : List Int := l.mergeSort fun x y => decide (x ≤ y)
def collL (l : List Int) : List Int := Go.Lib.compact (sortL l)
theorem sortL_len (l : List Int) : (sortL l).length = l.length := by simp [sortL]
theorem sortL_le (l : List Int) : (sortL l).Pairwise (· ≤ ·) := by
  have := List.pairwise_mergeSort (le := fun x y : Int => decide (x ≤ y)) (fun a b c h1 h2 => by simp at *; omega) (fun a b => by simp; omega) l
  exact this.imp fun h => by simpa using h
theorem sortL_mem (l : List Int) (x : Int) : x ∈ sortL l ↔ x ∈ l := by unfold sortL; exact List.mem_mergeSort
theorem listTo_lt (f : Nat → Bool) (m : Nat) : (listTo f m).Pairwise (· < ·) := by
  unfold listTo
  rw [List.pairwise_map]
  exact (List.Pairwise.filter _ List.pairwise_lt_range).imp fun h => by simpa using h
theorem listTo_mem (f : Nat → Bool) (m : Nat) (x : Int) : x ∈ listTo f m ↔ ∃ j : Nat, x = j ∧ j < m ∧ f j = true := by
  unfold listTo
  simp only [List.mem_map, List.mem_filter, List.mem_range, Int.ofNat_eq_natCast]
  constructor
  · rintro ⟨j, h, rfl⟩; exact ⟨j, rfl, h⟩
  · rintro ⟨j, rfl, h⟩; exact ⟨j, h, rfl⟩
theorem collL_eq {l : List Int} {m : Nat} {f : Nat → Bool} (h : ∀ x ∈ l, ∃ j : Nat, x = j ∧ j < m) (hf : ∀ j, j < m → (f j = true ↔ (j : Int) ∈ l)) : collL l = listTo f m := by
  refine sorted_extZ _ _ (compact_lt (sortL_le l)) (listTo_lt f m) fun x => ?_
  rw [collL, compact_mem, sortL_mem, listTo_mem]
  constructor
  · intro hx
    obtain ⟨j, rfl, hj⟩ := h x hx
    exact ⟨j, rfl, hj, (hf j hj).2 hx⟩
  · rintro ⟨j, rfl, hj, hx⟩
    exact (hf j hj).1 hx
theorem collL_len (l : List Int) : (collL l).length ≤ l.length := by
  unfold collL Go.Lib.compact Go.Lib.compactUpTo
  rw [List.length_map]
  exact Nat.le_trans (List.length_filter_le _ _) (by simp [sortL])
end Go.Proofs.YtngbimgabcacpaaGreat
