/- Part of a proof: GdO3, GdO4, GdO5, GdO6, GdO7, GdO8, GdO9 -/
import Derived.Test.YtmacdhglhafldaaDoorK10
import Derived.Test.YtmacdhglhafldaaDoorK11
import Derived.Test.YtmacdhglhafldaaDoorK19

/- The octet codec: copies. -/
namespace Go.Gp.Tryd
open Go.Proofs
set_option linter.unusedVariables false
set_option linter.unusedSimpArgs false
set_option maxHeartbeats 4000000

theorem CloneB_A (xs : List (List AV)) (H : List AObj) (hl : xs.length ≤ 140737488355328) (hbd : Bd H.length (.sl .no 1 xs)) : CallsA E 86 [.sl .no 1 xs] H (Is H (.sl .no 1 xs)) := by
  refine .enter Tryd.func86 rfl rfl rfl 8 Tryd.ntmps86 (Nat.le_of_ble_eq_true rfl) ?_
  repeat' first
    | refine WpA.seq ?_
    | refine WpA.region ?_
    | refine WpOps.op _ rfl rfl rfl rfl rfl ?_
    | refine WpOps.nil ?_
  refine WpOps.isNil rfl rfl rfl rfl rfl rfl (fun h0 => by cases h0) (fun b hb => ?_)
  repeat' first
    | refine WpA.seq ?_
    | refine WpA.region ?_
    | refine WpOps.op _ rfl rfl rfl rfl rfl ?_
    | refine WpOps.buildSlice [] rfl rfl rfl rfl rfl rfl rfl rfl rfl rfl rfl ?_
    | refine WpOps.nil ?_
    | refine WpA.ret ?_
    | refine WpA.skip ?_
    | refine WpA.cond _ rfl (fun h => ?_) (fun h => ?_)
  · have e := hb h
    subst e
    exact retK.sub (.inr rfl) rfl (TrOk.refl H) (L := _) rfl rfl Sub.empty hbd ⟨rfl, rfl⟩
  · refine WpOps.appF (ys := xs) rfl rfl rfl rfl rfl rfl rfl (fun k h => by cases h) rfl rfl rfl ?_ ?_
    · show (0 + xs.length) * 1 ≤ _
      omega
    repeat' first
      | refine WpOps.op _ rfl rfl rfl rfl rfl ?_
      | refine WpOps.nil ?_
      | refine WpA.ret ?_
    exact retK.sub (.inr rfl) rfl (TrOk.refl H) (L := _) rfl rfl (Sub.refl _) hbd ⟨rfl, rfl⟩

theorem CloneI_A (xs : List (List AV)) (m q : Nat) (H : List AObj) (hmq : m + q = H.length) (hne : xs ≠ []) (hl : xs.length ≤ 1000000000000) :
    CallsA E 87 [.sl .no 3 xs] H (fun x H' => H' = H ++ [.cells xs.flatten] ∧ x = .ret (.os m q 0 3 xs.length)) := by
  refine .enter Tryd.func87 rfl rfl rfl 8 Tryd.ntmps87 (Nat.le_of_ble_eq_true rfl) ?_
  repeat' first
    | refine WpA.seq ?_
    | refine WpA.region ?_
    | refine WpOps.op _ rfl rfl rfl rfl rfl ?_
    | refine WpOps.nil ?_
  refine WpOps.isNil rfl rfl rfl rfl rfl rfl (fun h0 => by cases h0) (fun b hb => ?_)
  repeat' first
    | refine WpA.seq ?_
    | refine WpA.region ?_
    | refine WpOps.op _ rfl rfl rfl rfl rfl ?_
    | refine WpOps.buildSlice [] rfl rfl rfl rfl rfl rfl rfl rfl rfl rfl rfl ?_
    | refine WpOps.nil ?_
    | refine WpA.ret ?_
    | refine WpA.skip ?_
    | refine WpA.cond _ rfl (fun h => ?_) (fun h => ?_)
  · exact absurd (hb h) hne
  · refine WpOps.p1 rfl rfl rfl (.appO (L := []) (ys := xs) rfl rfl rfl rfl (fun k h => by cases h) rfl rfl rfl hne ?_) ?_
    · show xs.length * 56 ≤ _
      omega
    repeat' first
      | refine WpOps.op _ rfl rfl rfl rfl rfl ?_
      | refine WpOps.nil ?_
      | refine WpA.ret ?_
    exact retK.all (.inr rfl) rfl rfl (Sub.os (by rw [hmq]; rfl)) ⟨rfl, rfl⟩
end Go.Gp.Tryd

/- The octet codec: readers of values. -/
namespace Go.Gp.Tryd
open Go.Proofs
set_option linter.unusedVariables false
set_option linter.unusedSimpArgs false
set_option maxHeartbeats 4000000

def readStr (tag : UInt8) (bs : List UInt8) (items : List (List AV)) (t : UInt8) (n : Int) : List UInt8 × Int :=
  if (tag == t) = true ∧ items = [] ∧ (bs.length : Int) ≤ n then (bs, 0) else ([], 12)

theorem u8_bne (a b : UInt8) : (((a.toNat : Nat) : Int) != ((b.toNat : Nat) : Int)) = !(a == b) := by
  rw [Bool.eq_iff_iff]
  simp only [bne_iff_ne, ne_eq, Bool.not_eq_true', beq_eq_false_iff_ne]
  constructor
  · intro h e; exact h (by rw [e])
  · intro h e; exact h (UInt8.toNat_inj.1 (by omega))

theorem bdS (n : Nat) (s : List UInt8) (a : Int) : Bd n (.tup [.str s, .int .i64 a]) := .tup fun e he => by
  simp only [List.mem_cons, List.not_mem_nil, or_false] at he
  rcases he with rfl | rfl
  · exact .str
  · exact .int

theorem ReadStr_A (tag : UInt8) (bs : List UInt8) (items : List (List AV)) (t : UInt8) (n : Int) (H : List AObj) :
    CallsA E 55 [.agg (octA tag bs items), u8 t, .int .i64 n] H (Is H (.tup [.str (readStr tag bs items t n).1, .int .i64 (readStr tag bs items t n).2])) := by
  refine .enter Tryd.func55 rfl rfl rfl 28 Tryd.ntmps55 (Nat.le_of_ble_eq_true rfl) ?_
  repeat' first
    | refine WpA.seq ?_
    | refine WpA.region ?_
    | refine WpOps.op _ rfl rfl rfl rfl rfl ?_
    | refine WpOps.box _ rfl rfl rfl rfl rfl ?_
    | refine WpOps.skip rfl rfl rfl ?_
    | refine WpOps.p1 rfl rfl rfl (.slStr bs rfl rfl rfl rfl rfl rfl) ?_
    | refine WpOps.gsplit _ rfl rfl rfl (fun h => ?_) (fun h => ?_)
    | refine WpOps.nil ?_
    | refine WpA.ret ?_
    | refine WpA.skip ?_
    | refine WpA.condT rfl ?_
    | refine WpA.cond _ rfl (fun h => ?_) (fun h => ?_)
  · rw [u8_bne, Bool.not_eq_true'] at h
    have e : readStr tag bs items t n = ([], 12) := by rw [readStr, if_neg]; rintro ⟨h1, _⟩; rw [h] at h1; cases h1
    rw [e]
    exact retK.ok rfl rfl rfl (bdS _ _ _)
  · simp at h
    have e : readStr tag bs items t n = ([], 12) := by rw [readStr, if_neg]; rintro ⟨_, h1, _⟩; rw [h1] at h; simp at h
    rw [e]
    exact retK.ok rfl rfl rfl (bdS _ _ _)
  · simp at h
    have e : readStr tag bs items t n = ([], 12) := by rw [readStr, if_neg]; rintro ⟨_, _, h1⟩; omega
    rw [e]
    exact retK.ok rfl rfl rfl (bdS _ _ _)
  · rename_i h0 h1
    rw [u8_bne, Bool.not_eq_false'] at h0
    simp at h1 h
    have e : readStr tag bs items t n = (bs, 0) := by rw [readStr, if_pos ⟨h0, h1, by omega⟩]
    rw [e]
    exact retK.ok rfl rfl rfl (bdS _ _ _)
end Go.Gp.Tryd

/- The octet codec: sizes. -/
namespace Go.Gp.Tryd
open Go.Proofs
set_option linter.unusedVariables false
set_option linter.unusedSimpArgs false
set_option maxHeartbeats 4000000
set_option maxRecDepth 100000

theorem Len_A (x : Nat) (H : List AObj) (hx : x < 18446744073709551616) : CallsA E 84 [.int .u64 x] H (Is H (.int .i64 (bitLen x))) := by
  refine .enter Tryd.func84 rfl rfl rfl 8 Tryd.ntmps84 (Nat.le_of_ble_eq_true rfl) ?_
  repeat' first
    | refine WpA.seq ?_
    | refine WpA.region ?_
    | refine WpOps.op _ rfl rfl rfl rfl rfl ?_
    | (refine WpOps.call rfl rfl rfl rfl rfl (by exact Len64_A x _ hx) ?_; rintro _ _ ⟨rfl, rfl⟩)
    | refine WpOps.nil ?_
    | refine WpA.ret ?_
    | refine WpA.skip ?_
    | refine WpA.condF rfl ?_
  all_goals exact retK.ok rfl rfl rfl .int

def wide (n : Nat) : Nat := if n < 128 then 1 else 1 + (bitLen n + 7) / 8

theorem wide_A (n : Nat) (H : List AObj) (hn : n < 4611686018427387904) : CallsA E 90 [.int .i64 n] H (Is H (.int .i64 (wide n))) := by
  refine .enter Tryd.func90 rfl rfl rfl 11 Tryd.ntmps90 (Nat.le_of_ble_eq_true rfl) ?_
  have hw : IntKind.u64.wrap (n : Int) = n := wrapu64 (by omega) (by omega)
  have hb := bitLen_lt (x := n) (k := 64) (by omega)
  have hLen : ∀ H, CallsA E 84 [.int .u64 (IntKind.u64.wrap (n : Int))] H (Is H (.int .i64 (bitLen n))) := fun H => by rw [hw]; exact Len_A n H (by omega)
  repeat' first
    | refine WpA.seq ?_
    | refine WpA.region ?_
    | refine WpOps.op _ rfl rfl rfl rfl rfl ?_
    | (refine WpOps.call rfl rfl rfl rfl rfl (by exact hLen _) ?_; rintro _ _ ⟨rfl, rfl⟩)
    | refine WpOps.quo _ rfl rfl rfl rfl rfl ?_
    | refine WpOps.nil ?_
    | refine WpA.ret ?_
    | refine WpA.skip ?_
    | refine WpA.cond _ rfl (fun h => ?_) (fun h => ?_)
  · simp at h
    have e : wide n = 1 := by rw [wide, if_pos (by omega)]
    rw [e]
    exact retK.ok rfl rfl rfl .int
  · simp at h
    have e : wide n = 1 + (bitLen n + 7) / 8 := by rw [wide, if_neg (by omega)]
    rw [e]
    refine retK.ok rfl rfl (congrArg (AV.int .i64) ?_) .int
    show IntKind.i64.wrap (1 + IntKind.i64.wrap ((IntKind.i64.wrap ((bitLen n : Int) + 7)).tdiv (7 + 1))) = _
    rw [wrap64 (x := (bitLen n : Int) + 7) (by omega) (by omega)]
    have : ((bitLen n : Int) + 7).tdiv (7 + 1) = (((bitLen n + 7) / 8 : Nat) : Int) := by
      rw [Int.tdiv_eq_ediv_of_nonneg (by omega)]
      omega
    rw [this, wrap64 (x := (((bitLen n + 7) / 8 : Nat) : Int)) (by omega) (by omega), wrap64 (by omega) (by omega)]
    omega
end Go.Gp.Tryd

/- The octet codec: values as trees. -/
namespace Go.Gp.Tryd
open Go.Proofs
set_option linter.unusedVariables false
set_option linter.unusedSimpArgs false
set_option maxHeartbeats 4000000
set_option maxRecDepth 100000

inductive Oct where
  | mk (tag : UInt8) (bs : List UInt8) (items : List Oct)

def Oct.tag : Oct → UInt8 | .mk t _ _ => t
def Oct.bs : Oct → List UInt8 | .mk _ b _ => b
def Oct.items : Oct → List Oct | .mk _ _ is => is
theorem Oct.eta (o : Oct) : Oct.mk o.tag o.bs o.items = o := by cases o; rfl

mutual
def Oct.cells0 : Oct → List AV
  | .mk t bs is => octA t bs (Oct.cellsL is)
def Oct.cellsL : List Oct → List (List AV)
  | [] => []
  | o :: os => o.cells0 :: Oct.cellsL os
end
def Oct.cells (o : Oct) : List AV := octA o.tag o.bs (Oct.cellsL o.items)
theorem cells_eq (o : Oct) : o.cells0 = o.cells := by cases o; simp only [Oct.cells0, Oct.cells, Oct.tag, Oct.bs, Oct.items]
theorem cellsL_cons (o : Oct) (os : List Oct) : Oct.cellsL (o :: os) = o.cells :: Oct.cellsL os := by rw [← cells_eq]; simp only [Oct.cellsL]
theorem cellsL_map : ∀ os : List Oct, Oct.cellsL os = os.map Oct.cells
  | [] => by simp only [Oct.cellsL, List.map_nil]
  | o :: os => by rw [cellsL_cons, cellsL_map os, List.map_cons]

mutual
/-- The bytes inside, and the whole size. -/
def Oct.inner : Oct → Nat
  | .mk t bs is => bs.length + Oct.sizeL is
def Oct.sizeL : List Oct → Nat
  | [] => 0
  | .mk t bs is :: os => (1 + wide (bs.length + Oct.sizeL is) + (bs.length + Oct.sizeL is)) + Oct.sizeL os
end
def Oct.size (o : Oct) : Nat := 1 + wide o.inner + o.inner

theorem cellsL_length (os : List Oct) : (Oct.cellsL os).length = os.length := by rw [cellsL_map, List.length_map]

theorem cellsL_get {os : List Oct} {i : Nat} (h : i < os.length) : (Oct.cellsL os)[i]? = some (os[i]).cells := by
  rw [cellsL_map, List.getElem?_map, List.getElem?_eq_getElem h]; rfl

mutual
theorem Oct.bd0 (n : Nat) : ∀ o : Oct, ∀ e ∈ o.cells0, Bd n e
  | .mk t bs is, e, he => by
    simp only [Oct.cells0, octA, List.mem_cons, List.not_mem_nil, or_false] at he
    rcases he with rfl | rfl | rfl
    · exact .int
    · exact bd_bytes n bs
    · exact .sl (fun _ _ e => by cases e) (Oct.bdL n is)
theorem Oct.bdL (n : Nat) : ∀ os : List Oct, ∀ x ∈ Oct.cellsL os, ∀ e ∈ x, Bd n e
  | [], x, hx => by simp [Oct.cellsL] at hx
  | o :: os, x, hx => by
    simp only [Oct.cellsL, List.mem_cons] at hx
    rcases hx with rfl | hx
    · exact Oct.bd0 n o
    · exact Oct.bdL n os x hx
end
theorem Oct.bd (n : Nat) (o : Oct) : ∀ e ∈ o.cells, Bd n e := by rw [← cells_eq]; exact Oct.bd0 n o
theorem Oct.bdA (n : Nat) (o : Oct) : Bd n (.agg o.cells) := .agg (Oct.bd n o)
end Go.Gp.Tryd

/- The octet codec: sizes of values. -/
namespace Go.Gp.Tryd
open Go.Proofs
set_option linter.unusedVariables false
set_option linter.unusedSimpArgs false
set_option maxHeartbeats 4000000
set_option maxRecDepth 100000

theorem sizeL_cons (o : Oct) (os : List Oct) : Oct.sizeL (o :: os) = o.size + Oct.sizeL os := by cases o; simp only [Oct.sizeL, Oct.size, Oct.inner]
theorem sizeL_append : ∀ (xs ys : List Oct), Oct.sizeL (xs ++ ys) = Oct.sizeL xs + Oct.sizeL ys
  | [], ys => by simp [Oct.sizeL]
  | x :: xs, ys => by rw [List.cons_append, sizeL_cons, sizeL_append xs ys, sizeL_cons]; omega
theorem sizeL_take {is : List Oct} {i : Nat} (h : i < is.length) : Oct.sizeL (is.take (i + 1)) = Oct.sizeL (is.take i) + is[i].size := by
  rw [List.take_succ_eq_append_getElem h, sizeL_append, sizeL_cons]; simp [Oct.sizeL]
theorem sizeL_le {is : List Oct} (i : Nat) : Oct.sizeL (is.take i) ≤ Oct.sizeL is := by
  have := sizeL_append (is.take i) (is.drop i)
  rw [List.take_append_drop] at this
  omega
theorem size_get {is : List Oct} {i : Nat} (h : i < is.length) : is[i].size ≤ Oct.sizeL is := by
  have := sizeL_take h
  have := sizeL_le (is := is) (i + 1)
  omega
theorem size_mk (t : UInt8) (bs : List UInt8) (is : List Oct) : (Oct.mk t bs is).size = 1 + wide (bs.length + Oct.sizeL is) + (bs.length + Oct.sizeL is) := by simp only [Oct.size, Oct.inner]
theorem inner_mk (t : UInt8) (bs : List UInt8) (is : List Oct) : (Oct.mk t bs is).inner = bs.length + Oct.sizeL is := by simp only [Oct.inner]
theorem size_pos (o : Oct) : 0 < o.size := by cases o; rw [size_mk]; omega
theorem length_le_sizeL : ∀ (is : List Oct), is.length ≤ Oct.sizeL is
  | [] => by simp [Oct.sizeL]
  | o :: os => by rw [sizeL_cons, List.length_cons]; have := length_le_sizeL os; have := size_pos o; omega
theorem wide_le (n : Nat) (h : n < 18446744073709551616) : wide n ≤ 9 := by
  have := bitLen_lt (x := n) (k := 64) h
  unfold wide
  split <;> omega
theorem sizeOf_get {is : List Oct} {t : UInt8} {bs : List UInt8} {i : Nat} (h : i < is.length) : SizeOf.sizeOf is[i] < SizeOf.sizeOf (Oct.mk t bs is) := by
  have := List.sizeOf_lt_of_mem (List.getElem_mem h)
  simp only [Oct.mk.sizeOf_spec]
  omega

theorem size_A : ∀ (o : Oct) (H : List AObj), o.size ≤ 1125899906842624 → CallsA E 89 [.agg o.cells] H (Is H (.int .i64 o.size))
  | .mk tg bs is, H, hs => by
    have hs' := hs
    rw [size_mk] at hs'
    have ih : ∀ (i : Nat) (h : i < is.length) (H : List AObj), CallsA E 89 [.agg (is[i]).cells] H (Is H (.int .i64 (is[i]).size)) := fun i h H => size_A is[i] H (by have := size_get h; omega)
    refine .enter Tryd.func89 rfl rfl rfl 26 Tryd.ntmps89 (Nat.le_of_ble_eq_true rfl) ?_
    repeat' first
      | refine WpA.seq ?_
      | refine WpA.region ?_
      | refine WpOps.op _ rfl rfl rfl rfl rfl ?_
      | refine WpOps.box _ rfl rfl rfl rfl rfl ?_
      | refine WpA.block ?_
      | refine WpOps.nil ?_
    refine WpA.loopG is.length (fun i => [(3, .int .i64 ((bs.length + Oct.sizeL (is.take i) : Nat) : Int)), (10, .sl .no 3 (Oct.cellsL is)), (11, .int .i64 (is.length : Nat)), (12, .int .i64 (i : Nat))])
      (fun _ => H ++ [.cells (Oct.mk tg bs is).cells]) (fun _ => True) trivial ⟨?_, rfl, ?_, rfl, trivial⟩ rfl (fun _ _ => rfl) (fun _ _ _ => TrOk.refl _) (fun i hi _ => ?_) (fun i hi _ => ?_) (fun _ => ?_) (fun _ => ⟨rfl, rfl, rfl, rfl, trivial⟩)
    · show AV.int .i64 ((bs.map byteRow).length : Nat) = _
      simp [Oct.sizeL]
    · show AV.int .i64 ((Oct.cellsL is).length : Nat) = _
      rw [cellsL_length]
    · exact ⟨.int, .sl (fun _ _ e => by cases e) (Oct.bdL _ is), .int, .int, trivial⟩
    · have hc : (Oct.cellsL is)[((i : Nat) : Int).toNat]? = some (is[i]).cells := by rw [Int.toNat_natCast]; exact cellsL_get hi
      repeat' first
        | refine WpA.seq ?_
        | refine WpA.region ?_
        | refine WpOps.op _ rfl rfl rfl rfl rfl ?_
        | refine WpOps.alloc _ rfl rfl rfl rfl rfl rfl ?_
        | refine WpOps.store rfl rfl rfl rfl rfl rfl rfl rfl rfl rfl ?_
        | (refine WpOps.call rfl rfl rfl rfl rfl (by exact ih i hi _) ?_; rintro _ _ ⟨rfl, rfl⟩)
        | refine WpOps.elem (is[i]).cells rfl rfl rfl rfl rfl rfl rfl rfl rfl (Int.natCast_nonneg i) hc ?_
        | refine WpA.block ?_
        | refine WpA.exit ?_
        | refine WpOps.nil ?_
        | refine WpA.skip ?_
        | refine WpA.cond _ rfl (fun h => ?_) (fun h => ?_)
      · refine ⟨trivial, ⟨congrArg (AV.int .i64) ?_, rfl, rfl, congrArg (AV.int .i64) ?_, trivial⟩, [_], grow rfl⟩
        · have h1 := sizeL_take hi
          have h2 := sizeL_le (is := is) (i + 1)
          show IntKind.i64.wrap (((bs.length + Oct.sizeL (is.take i) : Nat) : Int) + ((is[i]).size : Nat)) = _
          rw [wrap64 (by omega) (by omega)]
          omega
        · have := length_le_sizeL is
          show IntKind.i64.wrap ((i : Int) + 1) = _
          rw [wrap64 (by omega) (by omega)]
          omega
      · simp at h
        omega
    · repeat' first
        | refine WpA.seq ?_
        | refine WpA.region ?_
        | refine WpOps.op _ rfl rfl rfl rfl rfl ?_
        | refine WpA.block ?_
        | refine WpA.exit ?_
        | refine WpOps.nil ?_
        | refine WpA.skip ?_
        | refine WpA.cond _ rfl (fun h => ?_) (fun h => ?_)
      · simp at h
      · have hw : wide (bs.length + Oct.sizeL is) ≤ 9 := wide_le _ (by omega)
        have hL : is.take is.length = is := List.take_length
        have hW : ∀ H, CallsA E 90 [.int .i64 ((bs.length + Oct.sizeL (is.take is.length) : Nat) : Int)] H (Is H (.int .i64 (wide (bs.length + Oct.sizeL is)))) := fun H => by rw [hL]; exact wide_A _ H (by omega)
        repeat' first
          | refine WpOps.op _ rfl rfl rfl rfl rfl ?_
          | (refine WpOps.call rfl rfl rfl rfl rfl (by exact hW _) ?_; rintro _ _ ⟨rfl, rfl⟩)
          | refine WpOps.nil ?_
          | refine WpA.ret ?_
        refine retK.ok rfl rfl (congrArg (AV.int .i64) ?_) .int
        rw [hL, size_mk]
        show IntKind.i64.wrap (IntKind.i64.wrap (1 + (wide (bs.length + Oct.sizeL is) : Nat)) + ((bs.length + Oct.sizeL is : Nat) : Int)) = _
        rw [wrap64 (x := 1 + _) (by omega) (by omega), wrap64 (by omega) (by omega)]
        omega
termination_by o => SizeOf.sizeOf o
decreasing_by exact sizeOf_get h
end Go.Gp.Tryd

/- The octet codec: encodings. -/
namespace Go.Gp.Tryd
open Go.Proofs
set_option linter.unusedVariables false
set_option linter.unusedSimpArgs false
set_option maxHeartbeats 4000000
set_option maxRecDepth 100000

def lenB (n : Nat) : List UInt8 := if n < 128 then [UInt8.ofNat n] else UInt8.ofNat (128 + (wide n - 1)) :: beN n (wide n - 1)

mutual
def Oct.enc0 : Oct → List UInt8
  | .mk t bs is => t :: (lenB (bs.length + Oct.sizeL is) ++ (bs ++ Oct.encL is))
def Oct.encL : List Oct → List UInt8
  | [] => []
  | o :: os => o.enc0 ++ Oct.encL os
end
def Oct.enc (o : Oct) : List UInt8 := o.tag :: (lenB (o.bs.length + Oct.sizeL o.items) ++ (o.bs ++ Oct.encL o.items))
theorem enc_eq (o : Oct) : o.enc0 = o.enc := by cases o; simp only [Oct.enc0, Oct.enc, Oct.tag, Oct.bs, Oct.items]
theorem encL_cons (o : Oct) (os : List Oct) : Oct.encL (o :: os) = o.enc ++ Oct.encL os := by rw [← enc_eq]; simp only [Oct.encL]
theorem encL_nil : Oct.encL [] = [] := by simp only [Oct.encL]
theorem encL_append : ∀ (xs ys : List Oct), Oct.encL (xs ++ ys) = Oct.encL xs ++ Oct.encL ys
  | [], ys => by rw [encL_nil]; rfl
  | x :: xs, ys => by rw [List.cons_append, encL_cons, encL_append xs ys, encL_cons, List.append_assoc]
theorem encL_take {is : List Oct} {i : Nat} (h : i < is.length) : Oct.encL (is.take (i + 1)) = Oct.encL (is.take i) ++ is[i].enc := by
  rw [List.take_succ_eq_append_getElem h, encL_append, encL_cons, encL_nil, List.append_nil]

theorem beN_length (x : Nat) : ∀ n, (beN x n).length = n
  | 0 => rfl
  | n + 1 => by rw [beN, List.length_cons, beN_length x n]
theorem beN_get (x : Nat) : ∀ {n i : Nat}, i < n → (beN x n)[i]? = some (UInt8.ofNat (x / 2 ^ (8 * (n - 1 - i))))
  | n + 1, 0, _ => by rw [beN]; simp
  | n + 1, i + 1, h => by
    rw [beN, List.getElem?_cons_succ, beN_get x (by omega)]
    congr 5
    omega
theorem beN_take (x : Nat) {n i : Nat} (h : i < n) : (beN x n).take (i + 1) = (beN x n).take i ++ [UInt8.ofNat (x / 2 ^ (8 * (n - 1 - i)))] := by
  rw [List.take_add_one, beN_get x h]; rfl
theorem lenB_length (n : Nat) : (lenB n).length = wide n := by
  unfold lenB
  split
  · rw [wide, if_pos (by assumption)]; rfl
  · rw [List.length_cons, beN_length, wide, if_neg (by assumption)]; omega
mutual
theorem enc0_length : ∀ o : Oct, o.enc0.length = o.size
  | .mk t bs is => by
    have := encL_length is
    rw [Oct.enc0, size_mk]
    simp only [List.length_cons, List.length_append, lenB_length, this]
    omega
theorem encL_length : ∀ os : List Oct, (Oct.encL os).length = Oct.sizeL os
  | [] => by simp [Oct.encL, Oct.sizeL]
  | o :: os => by
    have h1 := enc0_length o
    have h2 := encL_length os
    rw [Oct.encL, List.length_append, h1, h2, sizeL_cons]
end
theorem enc_length (o : Oct) : o.enc.length = o.size := by rw [← enc_eq]; exact enc0_length o

theorem wide_ge {n : Nat} (h : 128 ≤ n) : 2 ≤ wide n := by
  have := bitLen_shift (x := n) (k := 7) h
  have h1 : 0 < n / 2 ^ 7 := Nat.div_pos h (by decide)
  have h2 : 1 ≤ bitLen (n / 2 ^ 7) := by unfold bitLen; rw [if_neg (by omega)]; omega
  unfold wide
  rw [if_neg (by omega)]
  omega

theorem put_A : ∀ (o : Oct) (b : List UInt8) (m q : Nat) (H : List AObj), H[m + q]? = some (.tail b.length 1) → b.length + o.size ≤ 1125899906842 →
    CallsA E 74 [.sl (.row m q) 1 (b.map byteRow), .agg o.cells] H (rowIs H m q (b ++ o.enc))
  | .mk tg bs is, b, m, q, H, hH, hs => by
    have hs' := hs
    rw [size_mk] at hs'
    have hmq := get_lt hH
    have hsz : ∀ (i : Nat) (h : i < is.length) (H : List AObj), CallsA E 89 [.agg (is[i]).cells] H (Is H (.int .i64 (is[i]).size)) := fun i h H => size_A is[i] H (by have := size_get h; omega)
    have ih : ∀ (i : Nat) (h : i < is.length) (b : List UInt8) (H : List AObj), H[m + q]? = some (.tail b.length 1) → b.length + (is[i]).size ≤ 1125899906842 →
      CallsA E 74 [.sl (.row m q) 1 (b.map byteRow), .agg (is[i]).cells] H (rowIs H m q (b ++ (is[i]).enc)) := fun i h b H h1 h2 => put_A is[i] b m q H h1 h2
    have hlen := length_le_sizeL is
    have hw : wide (bs.length + Oct.sizeL is) ≤ 9 := wide_le _ (by omega)
    refine .enter Tryd.func74 rfl rfl rfl 78 Tryd.ntmps74 (Nat.le_of_ble_eq_true rfl) ?_
    repeat' first
      | refine WpA.seq ?_
      | refine WpA.region ?_
      | refine WpOps.op _ rfl rfl rfl rfl rfl ?_
      | refine WpOps.box _ rfl rfl rfl rfl rfl ?_
      | refine WpA.block ?_
      | refine WpOps.nil ?_
    refine WpA.loopG is.length (fun i => [(0, .sl (.row m q) 1 (b.map byteRow)), (3, .ptr H.length 0 0), (5, .int .i64 ((bs.length + Oct.sizeL (is.take i) : Nat) : Int)), (16, .sl .no 3 (Oct.cellsL is)), (17, .int .i64 (is.length : Nat)), (18, .int .i64 (i : Nat))])
      (fun _ => H ++ [.cells (Oct.mk tg bs is).cells]) (fun _ => True) trivial ⟨rfl, rfl, ?_, rfl, ?_, rfl, trivial⟩ rfl (fun _ _ => rfl) (fun _ _ _ => TrOk.refl _) (fun i hi _ => ?_) (fun i hi _ => ?_) (fun _ => ?_) (fun _ => ⟨rfl, rfl, rfl, rfl, rfl, rfl, trivial⟩)
    · show AV.int .i64 ((bs.map byteRow).length : Nat) = _
      simp [Oct.sizeL]
    · show AV.int .i64 ((Oct.cellsL is).length : Nat) = _
      rw [cellsL_length]
    · exact ⟨bd_rowB (by simp; omega) b, .ptr (by simp), .int, .sl (fun _ _ e => by cases e) (Oct.bdL _ is), .int, .int, trivial⟩
    · have hc : (Oct.cellsL is)[((i : Nat) : Int).toNat]? = some (is[i]).cells := by rw [Int.toNat_natCast]; exact cellsL_get hi
      repeat' first
        | refine WpA.seq ?_
        | refine WpA.region ?_
        | refine WpOps.op _ rfl rfl rfl rfl rfl ?_
        | refine WpOps.alloc _ rfl rfl rfl rfl rfl rfl ?_
        | refine WpOps.store rfl rfl rfl rfl rfl rfl rfl rfl rfl rfl ?_
        | (refine WpOps.call rfl rfl rfl rfl rfl (by exact hsz i hi _) ?_; rintro _ _ ⟨rfl, rfl⟩)
        | refine WpOps.elem (is[i]).cells rfl rfl rfl rfl rfl rfl rfl rfl rfl (Int.natCast_nonneg i) hc ?_
        | refine WpA.block ?_
        | refine WpA.exit ?_
        | refine WpOps.nil ?_
        | refine WpA.skip ?_
        | refine WpA.cond _ rfl (fun h => ?_) (fun h => ?_)
      · refine ⟨trivial, ⟨rfl, rfl, congrArg (AV.int .i64) ?_, rfl, rfl, congrArg (AV.int .i64) ?_, trivial⟩, [_], grow rfl⟩
        · have h1 := sizeL_take hi
          have h2 := sizeL_le (is := is) (i + 1)
          show IntKind.i64.wrap (((bs.length + Oct.sizeL (is.take i) : Nat) : Int) + ((is[i]).size : Nat)) = _
          rw [wrap64 (by omega) (by omega)]
          omega
        · show IntKind.i64.wrap ((i : Int) + 1) = _
          rw [wrap64 (by omega) (by omega)]
          omega
      · simp at h
        omega
    · have hL : is.take is.length = is := List.take_length
      rw [hL]
      generalize hn : bs.length + Oct.sizeL is = n at *
      have hW : ∀ H, CallsA E 90 [.int .i64 (n : Int)] H (Is H (.int .i64 (wide n))) := fun H => wide_A _ H (by omega)
      repeat' first
        | refine WpA.seq ?_
        | refine WpA.region ?_
        | refine WpOps.op _ rfl rfl rfl rfl rfl ?_
        | refine WpOps.nil ?_
      refine WpA.cond _ rfl (fun h => ?_) (fun h => ?_)
      · simp at h
      have hnn := hn
      clear h hn hL hsz
      repeat' first
        | refine WpA.seq ?_
        | refine WpA.region ?_
        | refine WpOps.op _ rfl rfl rfl rfl rfl ?_
        | (refine WpOps.call rfl rfl rfl rfl rfl (by exact hW _) ?_; rintro _ _ ⟨rfl, rfl⟩)
        | (refine WpOps.buildSlice _ rfl rfl rfl rfl rfl rfl rfl rfl rfl rfl rfl ?_)
        | (refine WpOps.appB [tg] hH (by simp; omega) rfl rfl rfl rfl rfl rfl rfl (fun k h => by cases h) rfl rfl rfl rfl rfl (fun B hB hBl => ?_))
        | refine WpA.exit ?_
        | refine WpOps.nil ?_
      rw [hBl]
      obtain ⟨B1, hB1⟩ : ∃ B1 : List AObj, B1 = H.set (m + q) (.tail (b ++ tg :: lenB n).length 1) := ⟨_, rfl⟩
      have hB1l : B.length = B1.length := by rw [hB, hB1]; simp
      have hB0 : B[m + q]? = some (.tail (b ++ [tg]).length 1) := by rw [hB, List.getElem?_set_self hmq]
      have hlb := lenB_length n
      refine WpA.joinS [(0, .sl (.row m q) 1 ((b ++ tg :: lenB n).map byteRow)), (3, .ptr B1.length 0 0), (5, .int .i64 (n : Nat))] (B1 ++ [.cells (Oct.mk tg bs is).cells]) ?_ ?_
      · refine WpA.cond _ rfl (fun h => ?_) (fun h => ?_)
        · have hk : IntKind.i64.wrap ((wide n : Int) - 1) = 0 := by simpa using h
          rw [wrap64 (by omega) (by omega)] at hk
          have hn : n < 128 := by
            rcases Nat.lt_or_ge n 128 with h | h
            · exact h
            · have := wide_ge h; omega
          have hlb : lenB n = [UInt8.ofNat n] := by rw [lenB, if_pos hn]
          repeat' first
            | refine WpA.region ?_
            | refine WpOps.op _ rfl rfl rfl rfl rfl ?_
            | (refine WpOps.buildSlice _ rfl rfl rfl rfl rfl rfl rfl rfl rfl rfl rfl ?_)
            | (refine WpOps.appB [UInt8.ofNat n] hB0 (by simp; omega) rfl rfl rfl rfl rfl rfl rfl (fun k h => by cases h) rfl rfl rfl rfl (row1 n) (fun B' hB' hBl' => ?_))
            | refine WpOps.nil ?_
          have e1 : (b ++ [tg]) ++ [UInt8.ofNat n] = b ++ tg :: lenB n := by rw [hlb]; simp
          have e2 : B' = B1 := by rw [hB', hB1, hB, List.set_set, e1]
          subst e2
          rw [hBl', e1]
          exact ⟨⟨rfl, rfl, rfl, trivial⟩, rfl⟩
        · have hk : IntKind.i64.wrap ((wide n : Int) - 1) ≠ 0 := by simpa using h
          rw [wrap64 (by omega) (by omega)] at hk
          have hn : 128 ≤ n := by
            rcases Nat.lt_or_ge n 128 with h | h
            · exact absurd (by rw [wide, if_pos h]; rfl) hk
            · exact h
          obtain ⟨kk, hkk⟩ : ∃ kk : Nat, wide n = kk + 1 := ⟨wide n - 1, by have := wide_ge hn; omega⟩
          have hlb2 : lenB n = UInt8.ofNat (128 + kk) :: beN n kk := by rw [lenB, if_neg (by omega), hkk]; rfl
          have e128 : IntKind.i64.wrap (128 + IntKind.i64.wrap ((wide n : Int) - 1)) = ((128 + kk : Nat) : Int) := by
            rw [wrap64 (x := (wide n : Int) - 1) (by omega) (by omega), wrap64 (by omega) (by omega)]
            omega
          repeat' first
            | refine WpA.seq ?_
            | refine WpA.region ?_
            | refine WpOps.op _ rfl rfl rfl rfl rfl ?_
            | (refine WpOps.buildSlice _ rfl rfl rfl rfl rfl rfl rfl rfl rfl rfl rfl ?_)
            | (refine WpOps.appB [UInt8.ofNat (128 + kk)] hB0 (by simp; omega) rfl rfl rfl rfl rfl rfl rfl (fun k h => by cases h) rfl rfl rfl rfl (by show [[AV.int .u8 (IntKind.u8.wrap (IntKind.i64.wrap (128 + IntKind.i64.wrap ((wide n : Int) - 1))))]] = _; rw [e128]; exact row1 _) (fun B' hB' hBl' => ?_))
            | refine WpA.block ?_
            | refine WpOps.nil ?_
          rw [hBl']
          have hb' : B' = H.set (m + q) (.tail (b ++ [tg] ++ [UInt8.ofNat (128 + kk)] ++ (beN n kk).take 0).length 1) := by rw [hB', hB, List.set_set]; simp
          refine WpA.loopFor kk (fun i => [(0, .sl (.row m q) 1 ((b ++ [tg] ++ [UInt8.ofNat (128 + kk)] ++ (beN n kk).take i).map byteRow)), (3, .ptr B1.length 0 0), (5, .int .i64 (n : Nat)), (9, .int .i64 ((kk : Int) - 1 - (i : Nat)))])
            (fun i => H.set (m + q) (.tail (b ++ [tg] ++ [UInt8.ofNat (128 + kk)] ++ (beN n kk).take i).length 1) ++ [.cells (Oct.mk tg bs is).cells]) (fun _ => True) trivial ⟨?_, ?_, rfl, ?_, trivial⟩ (by rw [← hb']) (fun i hi _ => ?_) (fun _ => ?_)
          · show AV.sl (.row m q) 1 ((b ++ [tg] ++ [UInt8.ofNat (128 + kk)]).map byteRow) = _
            rw [List.take_zero, List.append_nil]
          · show AV.ptr B'.length 0 0 = _
            rw [hB', hB, hB1]; simp
          · show AV.int .i64 (IntKind.i64.wrap (IntKind.i64.wrap ((wide n : Int) - 1) - 1)) = _
            rw [wrap64 (x := (wide n : Int) - 1) (by omega) (by omega), wrap64 (by omega) (by omega)]
            congr 1
            omega
          · have hi9 : (kk : Int) - 1 - (i : Nat) = ((kk - 1 - i : Nat) : Int) := by omega
            rw [hi9]
            obtain ⟨B2, hB2⟩ : ∃ B2 : List AObj, B2 = H.set (m + q) (.tail (b ++ [tg] ++ [UInt8.ofNat (128 + kk)] ++ (beN n kk).take i).length 1) := ⟨_, rfl⟩
            have hB20 : B2[m + q]? = some (.tail (b ++ [tg] ++ [UInt8.ofNat (128 + kk)] ++ (beN n kk).take i).length 1) := by rw [hB2, List.getElem?_set_self hmq]
            have hB2l : B1.length = B2.length := by rw [hB1, hB2]; simp
            rw [← hB2, hB2l]
            have e8 : IntKind.i64.wrap (8 * ((kk - 1 - i : Nat) : Int)) = ((8 * (kk - 1 - i) : Nat) : Int) := by rw [wrap64 (by omega) (by omega)]; omega
            have hby : IntKind.u8.wrap ((n : Int).fdiv (2 ^ min (IntKind.i64.wrap (8 * ((kk - 1 - i : Nat) : Int))).toNat IntKind.i64.bits)) = IntKind.u8.wrap ((n / 2 ^ (8 * (kk - 1 - i)) : Nat) : Int) := by
              rw [e8, Int.toNat_natCast, show min (8 * (kk - 1 - i)) IntKind.i64.bits = 8 * (kk - 1 - i) from by show min _ 64 = _; omega, fdiv_nat]
            have htk := beN_take n hi
            have hbl := beN_length n kk
            repeat' first
              | refine WpA.seq ?_
              | refine WpA.region ?_
              | refine WpOps.op _ rfl rfl rfl rfl rfl ?_
              | (refine WpOps.p1 rfl rfl rfl (.shr rfl rfl rfl (by show (0 : Int) ≤ IntKind.i64.wrap (8 * ((kk - 1 - i : Nat) : Int)); rw [e8]; omega)) ?_)
              | (refine WpOps.buildSlice _ rfl rfl rfl rfl rfl rfl rfl rfl rfl rfl rfl ?_)
              | (refine WpOps.appB [UInt8.ofNat (n / 2 ^ (8 * (kk - 1 - i)))] hB20 (by simp; omega) rfl rfl rfl rfl rfl rfl rfl (fun k h => by cases h) rfl rfl rfl rfl (by show [[AV.int .u8 (IntKind.u8.wrap ((n : Int).fdiv (2 ^ min (IntKind.i64.wrap (8 * ((kk - 1 - i : Nat) : Int))).toNat IntKind.i64.bits)))]] = _; rw [hby]; exact row1 _) (fun B' hB' hBl' => ?_))
              | refine WpA.block ?_
              | refine WpOps.nil ?_
              | refine WpA.skip ?_
              | refine WpA.condT rfl ?_
            · have e1 : (b ++ [tg] ++ [UInt8.ofNat (128 + kk)] ++ (beN n kk).take i) ++ [UInt8.ofNat (n / 2 ^ (8 * (kk - 1 - i)))] = b ++ [tg] ++ [UInt8.ofNat (128 + kk)] ++ (beN n kk).take (i + 1) := by rw [htk]; simp
              rw [e1] at hB' ⊢
              refine ⟨trivial, ⟨rfl, ?_, rfl, ?_, trivial⟩, by rw [hB', hB2, List.set_set]⟩
              · show AV.ptr B2.length 0 0 = _
                rw [← hB2l]
              · show AV.int .i64 (IntKind.i64.wrap (((kk - 1 - i : Nat) : Int) - 1)) = _
                rw [wrap64 (by omega) (by omega)]
                congr 1
                omega
          · repeat' first
              | refine WpA.seq ?_
              | refine WpA.region ?_
              | refine WpOps.op _ rfl rfl rfl rfl rfl ?_
              | refine WpA.block ?_
              | refine WpA.exit ?_
              | refine WpOps.nil ?_
              | refine WpA.skip ?_
              | refine WpA.cond _ rfl (fun h => ?_) (fun h => ?_)
            · have : (0 : Int) ≤ (kk : Int) - 1 - (kk : Nat) := by simpa using h
              omega
            · have e1 : b ++ [tg] ++ [UInt8.ofNat (128 + kk)] ++ (beN n kk).take kk = b ++ tg :: lenB n := by
                rw [List.take_of_length_le (by rw [beN_length]; omega), hlb2]; simp
              rw [e1, hB1]
              exact ⟨⟨rfl, rfl, rfl, trivial⟩, rfl⟩
      · have hB10 : B1[m + q]? = some (.tail (b ++ tg :: lenB n).length 1) := by rw [hB1, List.getElem?_set_self hmq]
        have hsb : bs.length ≤ n := by omega
        repeat' first
          | refine WpA.seq ?_
          | refine WpA.region ?_
          | refine WpOps.op _ rfl rfl rfl rfl rfl ?_
          | (refine WpOps.appB bs hB10 (by simp; omega) rfl rfl rfl rfl rfl rfl rfl (fun k h => by cases h) rfl rfl rfl rfl rfl (fun B' hB' hBl' => ?_))
          | refine WpOps.nil ?_
        rw [hBl']
        repeat' first
          | refine WpOps.op _ rfl rfl rfl rfl rfl ?_
          | refine WpA.block ?_
          | refine WpOps.nil ?_
        have hB0' : B' = H.set (m + q) (.tail (b ++ tg :: lenB n ++ bs ++ Oct.encL (is.take 0)).length 1) := by rw [hB', hB1, List.set_set, List.take_zero, encL_nil, List.append_nil]
        refine WpA.loopG is.length (fun i => [(0, .sl (.row m q) 1 ((b ++ tg :: lenB n ++ bs ++ Oct.encL (is.take i)).map byteRow)), (67, .sl .no 3 (Oct.cellsL is)), (68, .int .i64 (is.length : Nat)), (69, .int .i64 (i : Nat))])
          (fun i => H.set (m + q) (.tail (b ++ tg :: lenB n ++ bs ++ Oct.encL (is.take i)).length 1) ++ [.cells (Oct.mk tg bs is).cells]) (fun _ => True) trivial ⟨?_, rfl, ?_, rfl, trivial⟩ (by rw [← hB0']) (fun _ _ => by simp) (fun _ _ _ => TrOk.set2 fun _ => obd_tail) (fun i hi _ => ?_) (fun i hi _ => ?_) (fun _ => ?_) (fun _ => ⟨rfl, rfl, rfl, rfl, trivial⟩)
        · show AV.sl (.row m q) 1 ((b ++ tg :: lenB n ++ bs).map byteRow) = _
          rw [List.take_zero, encL_nil, List.append_nil]
        · show AV.int .i64 ((Oct.cellsL is).length : Nat) = _
          rw [cellsL_length]
        · exact ⟨bd_rowB (by simp; omega) _, .sl (fun _ _ e => by cases e) (Oct.bdL _ is), .int, .int, trivial⟩
        · have hc : (Oct.cellsL is)[((i : Nat) : Int).toNat]? = some (is[i]).cells := by rw [Int.toNat_natCast]; exact cellsL_get hi
          obtain ⟨B2, hB2⟩ : ∃ B2 : List AObj, B2 = H.set (m + q) (.tail (b ++ tg :: lenB n ++ bs ++ Oct.encL (is.take i)).length 1) := ⟨_, rfl⟩
          have hB20 : B2[m + q]? = some (.tail (b ++ tg :: lenB n ++ bs ++ Oct.encL (is.take i)).length 1) := by rw [hB2, List.getElem?_set_self hmq]
          have hB2lt := get_lt hB20
          have h1 := sizeL_take hi
          have h2 := sizeL_le (is := is) (i + 1)
          have h3 := encL_length (is.take i)
          rw [← hB2]
          repeat' first
            | refine WpA.seq ?_
            | refine WpA.region ?_
            | refine WpOps.op _ rfl rfl rfl rfl rfl ?_
            | refine WpOps.alloc _ rfl rfl rfl rfl rfl rfl ?_
            | refine WpOps.store rfl rfl rfl rfl rfl rfl rfl rfl rfl rfl ?_
            | refine WpOps.elem (is[i]).cells rfl rfl rfl rfl rfl rfl rfl rfl rfl (Int.natCast_nonneg i) hc ?_
            | (refine WpOps.call rfl rfl rfl rfl rfl (by exact ih i hi _ _ (by rw [List.getElem?_append_left hB2lt]; exact hB20) (by simp; omega)) ?_; rintro _ _ ⟨rfl, rfl⟩; rw [List.set_append_left _ _ hB2lt])
            | refine WpA.block ?_
            | refine WpA.exit ?_
            | refine WpOps.nil ?_
            | refine WpA.ret ?_
            | refine WpA.skip ?_
            | refine WpA.cond _ rfl (fun h => ?_) (fun h => ?_)
          · refine ⟨trivial, ⟨?_, rfl, rfl, congrArg (AV.int .i64) ?_, trivial⟩, [.cells (is[i]).cells], ?_⟩
            · show AV.sl (.row m q) 1 ((b ++ tg :: lenB n ++ bs ++ Oct.encL (is.take i) ++ (is[i]).enc).map byteRow) = _
              rw [encL_take hi, List.append_assoc]
            · show IntKind.i64.wrap ((i : Int) + 1) = _
              rw [wrap64 (by omega) (by omega)]
              omega
            · rw [hB2, List.set_set, encL_take hi, ← List.append_assoc (b ++ tg :: lenB n ++ bs)]
              exact grow rfl
          · simp at h
            omega
        · repeat' first
            | refine WpA.seq ?_
            | refine WpA.region ?_
            | refine WpOps.op _ rfl rfl rfl rfl rfl ?_
            | refine WpA.block ?_
            | refine WpA.exit ?_
            | refine WpOps.nil ?_
            | refine WpA.ret ?_
            | refine WpA.skip ?_
            | refine WpA.cond _ rfl (fun h => ?_) (fun h => ?_)
          · simp at h
          · have e1 : b ++ tg :: lenB n ++ bs ++ Oct.encL (is.take is.length) = b ++ (Oct.mk tg bs is).enc := by
              rw [List.take_length]
              simp [Oct.enc, Oct.tag, Oct.bs, Oct.items, hnn]
            rw [e1]
            exact retK.tag (.inr rfl) (by simp) (.set1 obd_tail) rfl rfl (bd_rowB hmq _) ⟨rfl, rfl⟩
termination_by o => SizeOf.sizeOf o
decreasing_by exact sizeOf_get h
end Go.Gp.Tryd

/- The octet codec: all values of a value; Check. -/
namespace Go.Gp.Tryd
open Go.Proofs
set_option linter.unusedVariables false
set_option linter.unusedSimpArgs false
set_option maxHeartbeats 4000000
set_option maxRecDepth 100000

def itemOf (o : Oct) (d : Nat) : List AV := [.agg o.cells, .int .i64 (d : Nat)]

mutual
def Oct.pre0 : Oct → Nat → List (Oct × Nat)
  | .mk t bs is, d => (.mk t bs is, d) :: Oct.preL is (d + 1)
def Oct.preL : List Oct → Nat → List (Oct × Nat)
  | [], _ => []
  | o :: os, d => o.pre0 d ++ Oct.preL os d
end
def Oct.pre (o : Oct) (d : Nat) : List (Oct × Nat) := (o, d) :: Oct.preL o.items (d + 1)
theorem pre_eq (o : Oct) (d : Nat) : o.pre0 d = o.pre d := by cases o; simp only [Oct.pre0, Oct.pre, Oct.items]
theorem preL_cons (o : Oct) (os : List Oct) (d : Nat) : Oct.preL (o :: os) d = o.pre d ++ Oct.preL os d := by rw [← pre_eq]; simp only [Oct.preL]
theorem preL_nil (d : Nat) : Oct.preL [] d = [] := by simp only [Oct.preL]
theorem preL_append : ∀ (xs ys : List Oct) (d : Nat), Oct.preL (xs ++ ys) d = Oct.preL xs d ++ Oct.preL ys d
  | [], ys, d => by rw [preL_nil]; rfl
  | x :: xs, ys, d => by rw [List.cons_append, preL_cons, preL_append xs ys, preL_cons, List.append_assoc]
theorem preL_take {is : List Oct} {i : Nat} (h : i < is.length) (d : Nat) : Oct.preL (is.take (i + 1)) d = Oct.preL (is.take i) d ++ is[i].pre d := by
  rw [List.take_succ_eq_append_getElem h, preL_append, preL_cons, preL_nil, List.append_nil]
def Oct.its (o : Oct) (d : Nat) : List (List AV) := (o.pre d).map fun p => itemOf p.1 p.2

def itsL (os : List Oct) (d : Nat) : List (List AV) := (Oct.preL os d).map fun p => itemOf p.1 p.2
theorem its_eq (o : Oct) (d : Nat) : o.its d = itemOf o d :: itsL o.items (d + 1) := rfl
theorem itsL_take {is : List Oct} {i : Nat} (h : i < is.length) (d : Nat) : itsL (is.take (i + 1)) d = itsL (is.take i) d ++ is[i].its d := by
  rw [itsL, preL_take h, List.map_append]; rfl
theorem mem_itsL {is : List Oct} {i : Nat} {d : Nat} {x : List AV} (h : i < is.length) (hx : x ∈ is[i].its d) : x ∈ itsL is d := by
  have : is = is.take (i + 1) ++ is.drop (i + 1) := (List.take_append_drop _ _).symm
  rw [this, itsL, preL_append, List.map_append]
  refine List.mem_append_left _ ?_
  have h2 := itsL_take h d
  unfold itsL at h2
  rw [h2]
  exact List.mem_append_right _ hx

theorem all_A (o : Oct) (d : Nat) (H : List AObj) : CallsA E 88 [.agg o.cells, .int .i64 (d : Nat)] H (fun e H' => H' = H ++ [.cells o.cells, .cells [.int .i64 (d : Nat)]] ∧ e = .ret (.func 108 [.ptr H.length 0 0, .ptr H.length 1 0])) := by
  refine .enter Tryd.func88 rfl rfl rfl 6 Tryd.ntmps88 (Nat.le_of_ble_eq_true rfl) ?_
  repeat' first
    | refine WpA.seq ?_
    | refine WpA.region ?_
    | refine WpOps.op _ rfl rfl rfl rfl rfl ?_
    | refine WpOps.box _ rfl rfl rfl rfl rfl ?_
    | refine WpOps.nil ?_
    | refine WpA.ret ?_
  exact retK.all (.inr rfl) rfl rfl (Sub.refl _) ⟨rfl, rfl⟩

/-- Where a closure of 'all' finds what it has captured. -/
def allPre (o : Oct) (d : Nat) (m q q' : Nat) (H : List AObj) : Prop := H[m + q]? = some (.cells o.cells) ∧ H[m + q']? = some (.cells [.int .i64 (d : Nat)])

theorem all1_A : ∀ (o : Oct) (d : Nat) (m q q' : Nat), d + o.size ≤ 1125899906842624 → IterA E 108 [.ptr m q 0, .ptr m q' 0] (allPre o d m q q') (o.its d)
  | .mk tg bs is, d, m, q, q', hd => by
    intro yn yj σ Hf f ok hy hpre s X hs
    have ih : ∀ (i : Nat) (h : i < is.length) (m q q' : Nat), IterA E 108 [.ptr m q 0, .ptr m q' 0] (allPre is[i] (d + 1) m q q') (is[i].its (d + 1)) := fun i h m q q' => all1_A is[i] (d + 1) m q q' (by have := size_get h; rw [size_mk] at hd; omega)
    obtain ⟨B, hB⟩ : ∃ B, B = Hf s ++ X := ⟨_, rfl⟩
    obtain ⟨hp1, hp2⟩ := hpre s X
    rw [← hB] at hp1 hp2 ⊢
    refine .enter Tryd.func108 rfl rfl rfl 32 Tryd.ntmps108 (Nat.le_of_ble_eq_true rfl) ?_
    repeat' first
      | refine WpA.seq ?_
      | refine WpA.region ?_
      | refine WpOps.op _ rfl rfl rfl rfl rfl ?_
      | refine WpOps.box _ rfl rfl rfl rfl rfl ?_
      | (refine WpOps.loadOut _ rfl rfl rfl rfl rfl hp1 rfl rfl rfl ?_)
      | (refine WpOps.loadOut _ rfl rfl rfl rfl rfl hp2 rfl rfl rfl ?_)
      | refine WpOps.nil ?_
    have hitem : itemOf (.mk tg bs is) d ∈ (Oct.mk tg bs is).its d := List.mem_map.2 ⟨_, List.mem_cons_self, rfl⟩
    have hfr := hy.app s (itemOf (.mk tg bs is) d) (X ++ [.cells [.yld yn yj]]) hs hitem
    have hBX : ∀ L, Hf s ++ (X ++ L) = B ++ L := fun L => by rw [hB, List.append_assoc]
    rw [hBX] at hfr
    refine WpOps.callV rfl rfl rfl rfl rfl hfr ?_
    rintro _ _ ⟨rfl, rfl⟩
    obtain ⟨b1, s1, hf1⟩ : ∃ b1 s1, f s (itemOf (.mk tg bs is) d) = (b1, s1) := ⟨_, _, rfl⟩
    rw [hf1]
    dsimp only
    obtain ⟨B1, hB1⟩ : ∃ B1, B1 = Hf s1 ++ X := ⟨_, rfl⟩
    have hBl : B.length = B1.length := by rw [hB, hB1, List.length_append, List.length_append, hy.len s s1]
    have hh : Hf s1 ++ (X ++ [AObj.cells [AV.yld yn yj]]) = B1 ++ [AObj.cells [AV.yld yn yj]] := by rw [hB1, List.append_assoc]
    rw [hh]
    have htr : ∀ s', TrOk B (Hf s' ++ X) := fun s' => by rw [hB]; exact hy.tr s s' X
    rw [its_eq]
    have hrun : ∀ l, runIt f s (itemOf (.mk tg bs is) d :: l) = bif b1 then runIt f s1 l else s1 := fun l => by rw [runIt, hf1]
    rw [hrun]
    rw [hBl]
    repeat' first
      | refine WpA.seq ?_
      | refine WpA.region ?_
      | refine WpOps.op _ rfl rfl rfl rfl rfl ?_
      | refine WpOps.nil ?_
      | refine WpA.ret ?_
      | refine WpA.skip ?_
      | refine WpA.cond _ rfl (fun h => ?_) (fun h => ?_)
    · have hb : b1 = false := by simpa using h
      subst hb
      rw [hB1]
      exact retK.tag (.inr rfl) (by rw [← hB1, hBl]) (htr s1) rfl rfl (.tup (by simp)) ⟨rfl, rfl⟩
    · have hb : b1 = true := by simpa using h
      subst hb
      have hBl' := hB
      clear h hfr hB hBl hrun hh hBX
      have hs1 : ok s1 := by have := hy.next s _ hs hitem (by rw [hf1]); rw [hf1] at this; exact this
      have hyL : ∀ (i : Nat) (h : i < is.length) x, x ∈ is[i].its (d + 1) → x ∈ (Oct.mk tg bs is).its d := fun i h x hx => by rw [its_eq]; exact List.mem_cons_of_mem _ (mem_itsL h hx)
      have hpB := hpre s1 X
      rw [← hB1] at hpB
      have hsz := length_le_sizeL is
      rw [size_mk] at hd
      repeat' first
        | refine WpOps.op _ rfl rfl rfl rfl rfl ?_
        | refine WpOps.loadOut _ rfl rfl rfl rfl rfl hpB.1 rfl rfl rfl ?_
        | refine WpA.block ?_
        | refine WpOps.nil ?_
      show WpA E none 32 (.loop _) _ _ _
      let σs : Nat → σ := fun i => runIt f s1 (itsL (is.take i) (d + 1))
      refine WpA.loopG is.length (fun i => [(1, .ptr m q 0), (2, .ptr m q' 0), (3, .ptr B1.length 0 0), (14, .sl .no 3 (Oct.cellsL is)), (15, .int .i64 (is.length : Nat)), (16, .int .i64 (i : Nat))])
        (fun i => (Hf (σs i) ++ X) ++ [.cells [.yld yn yj]]) (fun i => allIt f s1 (itsL (is.take i) (d + 1)) = true ∧ ok (σs i)) ⟨rfl, hs1⟩ ⟨rfl, rfl, rfl, rfl, ?_, rfl, trivial⟩ (by rw [hB1]; rfl) ?_ ?_ ?_ (fun i hi ho => ?_) (fun ho => ?_) (fun _ => ⟨rfl, rfl, rfl, rfl, rfl, rfl, trivial⟩)
      · show AV.int .i64 ((Oct.cellsL is).length : Nat) = _
        rw [cellsL_length]
      · intro i _
        simp [hy.len (σs (i + 1)) (σs i)]
      · intro i _ _
        have := hy.tr (σs i) (σs (i + 1)) (X ++ [.cells [.yld yn yj]])
        rwa [← List.append_assoc, ← List.append_assoc] at this
      · intro i hi _
        have h1 := get_lt (hpre (σs i) X).1
        have h2 := get_lt (hpre (σs i) X).2
        have h3 := hy.len (σs i) s1
        refine ⟨.ptr (by rw [List.length_append]; omega), .ptr (by rw [List.length_append]; omega), .ptr ?_, .sl (fun _ _ e => by cases e) (Oct.bdL _ is), .int, .int, trivial⟩
        rw [hB1]
        simp [h3]
      · obtain ⟨Bi, hBi⟩ : ∃ Bi, Bi = Hf (σs i) ++ X := ⟨_, rfl⟩
        have hBil : B1.length = Bi.length := by rw [hB1, hBi, List.length_append, List.length_append, hy.len s1 (σs i)]
        rw [← hBi, hBil]
        have hpi := hpre (σs i) X
        rw [← hBi] at hpi
        have hc : (Oct.cellsL is)[((i : Nat) : Int).toNat]? = some (is[i]).cells := by rw [Int.toNat_natCast]; exact cellsL_get hi
        have hAll : ∀ H, CallsA E 88 [.agg (is[i]).cells, .int .i64 (IntKind.i64.wrap ((d : Int) + 1))] H (fun e H' => H' = H ++ [.cells (is[i]).cells, .cells [.int .i64 ((d + 1 : Nat) : Int)]] ∧ e = .ret (.func 108 [.ptr H.length 0 0, .ptr H.length 1 0])) := fun H => by
          rw [wrap64 (by omega) (by omega)]
          exact all_A is[i] (d + 1) H
        repeat' first
          | refine WpA.seq ?_
          | refine WpA.region ?_
          | refine WpOps.op _ rfl rfl rfl rfl rfl ?_
          | refine WpOps.alloc _ rfl rfl rfl rfl rfl rfl ?_
          | refine WpOps.store rfl rfl rfl rfl rfl rfl rfl rfl rfl rfl ?_
          | refine WpOps.elem (is[i]).cells rfl rfl rfl rfl rfl rfl rfl rfl rfl (Int.natCast_nonneg i) hc ?_
          | (refine WpOps.loadOut _ rfl rfl rfl rfl rfl hpi.2 rfl rfl rfl ?_)
          | (refine WpOps.call rfl rfl rfl rfl rfl (by exact hAll _) ?_; rintro _ _ ⟨rfl, rfl⟩; rw [List.append_assoc])
          | refine WpA.block ?_
          | refine WpA.exit ?_
          | refine WpOps.nil ?_
          | refine WpA.skip ?_
          | refine WpA.cond _ rfl (fun h => ?_) (fun h => ?_)
        · obtain ⟨M, hM⟩ : ∃ M, M = (Bi ++ [AObj.cells [.yld yn yj], .cells (is[i]).cells]).length := ⟨_, rfl⟩
          have hBx : Bi.length = (Hf (σs i)).length + X.length := by rw [hBi, List.length_append]
          obtain ⟨N, hN⟩ : ∃ N, N = Bi.length + 4 := ⟨_, rfl⟩
          refine WpA.weak (T := [(1, .ptr m q 0), (2, .ptr m q' 0), (3, .ptr Bi.length 0 0), (14, .sl .no 3 (Oct.cellsL is)), (15, .int .i64 (is.length : Nat)), (16, .int .i64 (i : Nat)), (23, .func 108 [.ptr M 0 0, .ptr M 1 0])]) ⟨rfl, rfl, rfl, rfl, rfl, rfl, by rw [hM]; rfl, trivial⟩ ?_
          refine WpA.heap (H' := Hf (σs i) ++ (X ++ [.cells [.yld yn yj], .cells (is[i]).cells, .cells (is[i]).cells, .cells [.int .i64 ((d + 1 : Nat) : Int)]])) (by rw [hBi, List.append_assoc, List.append_assoc]; rfl) ?_
          generalize hL : [AObj.cells [.yld yn yj], .cells (is[i]).cells, .cells (is[i]).cells, .cells [.int .i64 ((d + 1 : Nat) : Int)]] = L'
          have hL4 : L'.length = 4 := by rw [← hL]; rfl
          have hlen : ∀ s', (Hf s' ++ (X ++ L')).length = N := fun s' => by have := hy.len s' (σs i); rw [List.length_append, List.length_append, this, hN, hBx, hL4, Nat.add_assoc]
          refine WpA.rangeI (pl := [24, 25]) (N := N) (fun s' => Hf s' ++ (X ++ L')) (yStep f) ok (σs i) rfl rfl rfl rfl (ih i hi _ _ _) (fun s' X' => ?_) ho.2 hlen ?_ ?_ ?_ (by intro p hp; simp at hp; rcases hp with rfl | rfl <;> decide) ?_ ?_ ?_
          · have e1 : Hf s' ++ (X ++ L') ++ X' = (Hf s' ++ X) ++ (L' ++ X') := by simp
            have e2 : M = (Hf s' ++ X).length + 2 := by rw [hM]; simp [hy.len s' (σs i), hBx]
            rw [e1, e2]
            exact ⟨two_get (j := 2) rfl (by rw [← hL]; rfl), two_get (j := 3) rfl (by rw [← hL]; rfl)⟩
          · intro s' s'' k o hk
            have := hy.tr s' s'' (X ++ L') k o hk
            rwa [hlen s'] at this
          · have h1 := get_lt hpi.1
            have h2 := get_lt hpi.2
            refine ⟨.ptr (by omega), .ptr (by omega), .ptr (by omega), .sl (fun _ _ e => by cases e) (Oct.bdL _ is), .int, .int, .func ?_, trivial⟩
            intro e he
            simp only [List.mem_cons, List.not_mem_nil, or_false] at he
            have : M = Bi.length + 2 := by rw [hM]; simp
            rcases he with rfl | rfl
            · exact .ptr (by omega)
            · exact .ptr (by omega)
          · intro x hx
            obtain ⟨p, _, rfl⟩ := List.mem_map.1 hx
            rfl
          · intro s' x hs' hx hn
            have := hy.next s' x hs' (hyL i hi x hx)
            refine this ?_
            revert hn
            unfold yStep
            cases (f s' x).1 <;> simp
          · intro rec l s' x X' hs' hx C C' hC hC' hCl
            have hfr := hy.app s' x
            obtain ⟨p, hp, rfl⟩ := List.mem_map.1 hx
            have h3 : ∀ (C : List AObj) st, C = Hf s' ++ (X ++ L') ++ (rec st none :: X') → C[Bi.length + 0]? = some (.cells [.yld yn yj]) := fun C st hC => by
              have e1 : C = (Hf s' ++ X) ++ (L' ++ (rec st none :: X')) := by rw [hC]; simp
              have e2 : Bi.length = (Hf s' ++ X).length := by simp [hy.len s' (σs i), hBx]
              rw [e2]
              exact two_get (j := 0) e1 (by rw [← hL]; rfl)
            have hC3 := h3 C' .busy hC'
            repeat' first
              | refine WpA.seq ?_
              | refine WpA.region ?_
              | refine WpOps.op _ rfl rfl rfl rfl rfl ?_
              | refine WpOps.alloc _ rfl rfl rfl rfl rfl rfl ?_
              | refine WpOps.store rfl rfl rfl rfl rfl rfl rfl rfl rfl rfl ?_
              | refine WpOps.nil ?_
            refine ⟨rfl, _, rfl, ?_⟩
            rw [hCl]
            repeat' first
              | refine WpA.seq ?_
              | refine WpA.region ?_
              | refine WpOps.op _ rfl rfl rfl rfl rfl ?_
              | (refine WpOps.loadOut _ rfl rfl rfl rfl rfl hC3 rfl rfl rfl ?_)
              | refine WpA.block ?_
            have hfr2 := hy.app s' (itemOf p.1 p.2) (X ++ L' ++ (rec .busy none :: X') ++ [.cells p.1.cells]) hs' (hyL i hi _ hx)
            have e3 : Hf s' ++ (X ++ L' ++ (rec .busy none :: X') ++ [.cells p.1.cells]) = C' ++ [.cells p.1.cells] := by rw [hC']; simp
            rw [e3] at hfr2
            refine WpOps.callV rfl rfl rfl rfl rfl hfr2 ?_
            rintro _ _ ⟨rfl, rfl⟩
            have e4 : Hf (f s' (itemOf p.1 p.2)).2 ++ (X ++ L' ++ (rec .busy none :: X') ++ [.cells p.1.cells]) = (Hf (f s' (itemOf p.1 p.2)).2 ++ (X ++ L') ++ (rec .busy none :: X')) ++ [.cells p.1.cells] := by simp
            rw [e4]
            generalize hC2 : Hf (f s' (itemOf p.1 p.2)).2 ++ (X ++ L') ++ (rec .busy none :: X') = C2
            repeat' first
              | refine WpOps.op _ rfl rfl rfl rfl rfl ?_
              | refine WpOps.nil ?_
              | refine WpA.ret ?_
              | refine WpA.skip ?_
              | refine WpA.cond _ rfl (fun h => ?_) (fun h => ?_)
            · refine ⟨[.cells p.1.cells], by rw [← hC2]; rfl, ?_⟩
              have hb : (f s' (itemOf p.1 p.2)).1 = false := by simpa using h
              show (bif (f s' (itemOf p.1 p.2)).1 then none else some .ret) = some Code.ret
              rw [hb]; rfl
            · refine ⟨[.cells p.1.cells], by rw [← hC2]; rfl, ?_⟩
              have hb : (f s' (itemOf p.1 p.2)).1 = true := by simpa using h
              show (bif (f s' (itemOf p.1 p.2)).1 then none else some Code.ret) = none
              rw [hb]; rfl
          · intro rec
            rw [runStep_y]
            have hrun1 : ∀ n, i < n → n ≤ is.length → itsL (is.take n) (d + 1) = itsL (is.take i) (d + 1) ++ (is[i].its (d + 1) ++ itsL ((is.take n).drop (i + 1)) (d + 1)) := fun n h1 h2 => by
              have : is.take n = is.take (i + 1) ++ (is.take n).drop (i + 1) := by
                have := List.take_append_drop (i + 1) (is.take n)
                rw [List.take_take, Nat.min_eq_left (by omega)] at this
                exact this.symm
              conv => lhs; rw [this, itsL, preL_append, List.map_append]
              have h2 := itsL_take hi (d + 1)
              unfold itsL at h2 ⊢
              rw [h2, List.append_assoc]
            cases ha : allIt f (σs i) (is[i].its (d + 1)) with
            | true =>
              have hnxt : σs (i + 1) = runIt f (σs i) (is[i].its (d + 1)) := by
                show runIt f s1 (itsL (is.take (i + 1)) (d + 1)) = _
                rw [itsL_take hi, runIt_append, ho.1]; rfl
              repeat' first
                | refine WpA.region ?_
                | refine WpOps.op _ rfl rfl rfl rfl rfl ?_
                | refine WpOps.nil ?_
              refine ⟨⟨?_, ?_⟩, ⟨rfl, rfl, ?_, rfl, rfl, congrArg (AV.int .i64) ?_, trivial⟩, L'.tail ++ [rec .exhausted none], ?_⟩
              · rw [itsL_take hi, allIt_append, ho.1]; exact ha
              · rw [hnxt]; exact runIt_ok (hy.sub (hyL i hi)) ho.2 ha
              · rfl
              · rw [wrap64 (by omega) (by omega)]; omega
              · rw [hnxt, ← hL]; simp
            | false =>
              have hfin : runIt f s1 (itsL is (d + 1)) = runIt f (σs i) (is[i].its (d + 1)) := by
                have h9 := hrun1 is.length hi (Nat.le_refl _)
                rw [List.take_length] at h9
                rw [h9, runIt_append, ho.1]
                show runIt f (σs i) _ = _
                rw [runIt_append, ha]; rfl
              have hX : Hf (runIt f (σs i) (is[i].its (d + 1))) ++ (X ++ L') ++ [rec .exhausted (bif false then none else some Code.ret)] = (Hf (runIt f (σs i) (is[i].its (d + 1))) ++ X) ++ (L' ++ [rec .exhausted (some .ret)]) := by simp
              rw [hX]
              refine retK.tag (.inr rfl) (by rw [hBl']; simp [hy.len (runIt f (σs i) (is[i].its (d + 1))) s]) (htr _) rfl rfl (.tup (by simp)) ⟨rfl, ?_⟩
              show _ = Hf (runIt f s1 (itsL is (d + 1))) ++ X
              rw [hfin]
        · simp at h
          omega
      · repeat' first
          | refine WpA.seq ?_
          | refine WpA.region ?_
          | refine WpOps.op _ rfl rfl rfl rfl rfl ?_
          | refine WpA.block ?_
          | refine WpA.exit ?_
          | refine WpOps.nil ?_
          | refine WpA.skip ?_
          | refine WpA.cond _ rfl (fun h => ?_) (fun h => ?_)
        · simp at h
        · refine retK.tag (.inr rfl) (by rw [hBl']; simp [hy.len s (σs is.length)]) (htr _) rfl rfl (.tup (by simp)) ⟨rfl, ?_⟩
          show Hf (runIt f s1 (itsL (is.take is.length) (d + 1))) ++ X = Hf (runIt f s1 (itsL is (d + 1))) ++ X
          rw [List.take_length]
termination_by o => SizeOf.sizeOf o
decreasing_by exact sizeOf_get h
end Go.Gp.Tryd
