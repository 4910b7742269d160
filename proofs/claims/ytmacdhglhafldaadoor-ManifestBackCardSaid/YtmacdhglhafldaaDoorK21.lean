/- Part of a proof: GdO7, GdO8 -/
import Derived.Test.YtmacdhglhafldaaDoorK11
import Derived.Test.YtmacdhglhafldaaDoorK20

/- The octet codec: sizes of values. -/
namespace Go.Gp.Tryd
open Go.Proofs
set_option linter.unusedVariables false
set_option linter.unusedSimpArgs false
set_option maxHeartbeats 4000000
set_option maxRecDepth 100000

theorem sizeL_cons (o : Oct) (os : List Oct) : Oct.sizeL (o :: os) = o.size + Oct.sizeL os := by cases o; simp only [Oct.sizeL, Oct.size, Oct.inner]
theorem sizeL_append : ∀ (xs ys : List Oct), Oct.sizeL (xs ++ ys) = Oct.sizeL xs + Oct.sizeL ys
  | [], ys => by simp [Oct.sizeL]
  | x :: xs, ys => by rw [List.cons_append, sizeL_cons, sizeL_append xs ys, sizeL_cons]; omega
theorem sizeL_take {is : List Oct} {i : Nat} (h : i < is.length) : Oct.sizeL (is.take (i + 1)) = Oct.sizeL (is.take i) + is[i].size := by
  rw [List.take_succ_eq_append_getElem h, sizeL_append, sizeL_cons]; simp [Oct.sizeL]
theorem sizeL_le {is : List Oct} (i : Nat) : Oct.sizeL (is.take i) ≤ Oct.sizeL is := by
  have := sizeL_append (is.take i) (is.drop i)
  rw [List.take_append_drop] at this
  omega
theorem size_get {is : List Oct} {i : Nat} (h : i < is.length) : is[i].size ≤ Oct.sizeL is := by
  have := sizeL_take h
  have := sizeL_le (is := is) (i + 1)
  omega
theorem size_mk (t : UInt8) (bs : List UInt8) (is : List Oct) : (Oct.mk t bs is).size = 1 + wide (bs.length + Oct.sizeL is) + (bs.length + Oct.sizeL is) := by simp only [Oct.size, Oct.inner]
theorem inner_mk (t : UInt8) (bs : List UInt8) (is : List Oct) : (Oct.mk t bs is).inner = bs.length + Oct.sizeL is := by simp only [Oct.inner]
theorem size_pos (o : Oct) : 0 < o.size := by cases o; rw [size_mk]; omega
theorem length_le_sizeL : ∀ (is : List Oct), is.length ≤ Oct.sizeL is
  | [] => by simp [Oct.sizeL]
  | o :: os => by rw [sizeL_cons, List.length_cons]; have := length_le_sizeL os; have := size_pos o; omega
theorem wide_le (n : Nat) (h : n < 18446744073709551616) : wide n ≤ 9 := by
  have := bitLen_lt (x := n) (k := 64) h
  unfold wide
  split <;> omega
theorem sizeOf_get {is : List Oct} {t : UInt8} {bs : List UInt8} {i : Nat} (h : i < is.length) : SizeOf.sizeOf is[i] < SizeOf.sizeOf (Oct.mk t bs is) := by
  have := List.sizeOf_lt_of_mem (List.getElem_mem h)
  simp only [Oct.mk.sizeOf_spec]
  omega

theorem size_A : ∀ (o : Oct) (H : List AObj), o.size ≤ 1125899906842624 → CallsA E 89 [.agg o.cells] H (Is H (.int .i64 o.size))
  | .mk tg bs is, H, hs => by
    have hs' := hs
    rw [size_mk] at hs'
    have ih : ∀ (i : Nat) (h : i < is.length) (H : List AObj), CallsA E 89 [.agg (is[i]).cells] H (Is H (.int .i64 (is[i]).size)) := fun i h H => size_A is[i] H (by have := size_get h; omega)
    refine .enter Tryd.func89 rfl rfl rfl 26 Tryd.ntmps89 (Nat.le_of_ble_eq_true rfl) ?_
    repeat' first
      | refine WpA.seq ?_
      | refine WpA.region ?_
      | refine WpOps.op _ rfl rfl rfl rfl rfl ?_
      | refine WpOps.box _ rfl rfl rfl rfl rfl ?_
      | refine WpOps.alloc _ rfl rfl rfl rfl rfl rfl ?_
      | refine WpOps.store rfl rfl rfl rfl rfl rfl rfl rfl rfl rfl ?_
      | refine WpOps.skip rfl rfl rfl ?_
      | refine WpOps.build _ rfl rfl rfl rfl rfl ?_
      | refine WpOps.sh _ rfl rfl rfl rfl rfl ?_
      | refine WpOps.gsplit _ rfl rfl rfl (fun h => ?_) (fun h => ?_)
      | refine WpA.block ?_
      | refine WpA.exit ?_
      | refine WpOps.nil ?_
      | refine WpA.ret ?_
      | refine WpA.skip ?_
      | refine WpA.condT rfl ?_
      | refine WpA.condF rfl ?_
      | refine WpA.cond _ rfl (fun h => ?_) (fun h => ?_)
      | refine WpA.draw (by kernel_rfl) ?_
      | refine LexA.op _ rfl rfl rfl rfl rfl ?_
      | refine LexA.skip rfl rfl rfl ?_
      | refine LexA.build _ rfl rfl rfl rfl rfl ?_
      | refine LexA.sh _ rfl rfl rfl rfl rfl ?_
      | refine LexA.gsplit _ rfl rfl rfl (fun h => ?_) (fun h => ?_)
      | refine LexA.nil ?_
    refine WpA.loopG is.length (fun i => [(3, .int .i64 ((bs.length + Oct.sizeL (is.take i) : Nat) : Int)), (10, .sl .no 3 (Oct.cellsL is)), (11, .int .i64 (is.length : Nat)), (12, .int .i64 (i : Nat))])
      (fun _ => H ++ [.cells (Oct.mk tg bs is).cells]) (fun _ => True) trivial ⟨?_, rfl, ?_, rfl, trivial⟩ rfl (fun _ _ => rfl) (fun _ _ _ => TrOk.refl _) (fun i hi _ => ?_) (fun i hi _ => ?_) (fun _ => ?_) (fun _ => ⟨rfl, rfl, rfl, rfl, trivial⟩)
    · show AV.int .i64 ((bs.map byteRow).length : Nat) = _
      simp [Oct.sizeL]
    · show AV.int .i64 ((Oct.cellsL is).length : Nat) = _
      rw [cellsL_length]
    · exact ⟨.int, .sl (fun _ _ e => by cases e) (Oct.bdL _ is), .int, .int, trivial⟩
    · have hc : (Oct.cellsL is)[((i : Nat) : Int).toNat]? = some (is[i]).cells := by rw [Int.toNat_natCast]; exact cellsL_get hi
      repeat' first
        | refine WpA.seq ?_
        | refine WpA.region ?_
        | refine WpOps.op _ rfl rfl rfl rfl rfl ?_
        | refine WpOps.box _ rfl rfl rfl rfl rfl ?_
        | refine WpOps.alloc _ rfl rfl rfl rfl rfl rfl ?_
        | refine WpOps.store rfl rfl rfl rfl rfl rfl rfl rfl rfl rfl ?_
        | refine WpOps.skip rfl rfl rfl ?_
        | refine WpOps.build _ rfl rfl rfl rfl rfl ?_
        | refine WpOps.sh _ rfl rfl rfl rfl rfl ?_
        | (refine WpOps.call rfl rfl rfl rfl rfl (by exact ih i hi _) ?_; rintro _ _ ⟨rfl, rfl⟩)
        | refine WpOps.elem (is[i]).cells rfl rfl rfl rfl rfl rfl rfl rfl rfl (Int.natCast_nonneg i) hc ?_
        | refine WpOps.gsplit _ rfl rfl rfl (fun h => ?_) (fun h => ?_)
        | refine WpA.block ?_
        | refine WpA.exit ?_
        | refine WpOps.nil ?_
        | refine WpA.ret ?_
        | refine WpA.skip ?_
        | refine WpA.condT rfl ?_
        | refine WpA.condF rfl ?_
        | refine WpA.cond _ rfl (fun h => ?_) (fun h => ?_)
        | refine WpA.draw (by kernel_rfl) ?_
        | refine LexA.op _ rfl rfl rfl rfl rfl ?_
        | refine LexA.skip rfl rfl rfl ?_
        | refine LexA.build _ rfl rfl rfl rfl rfl ?_
        | refine LexA.sh _ rfl rfl rfl rfl rfl ?_
        | refine LexA.call rfl rfl rfl rfl rfl (by exact ih i hi _) ?_
        | refine LexA.gsplit _ rfl rfl rfl (fun h => ?_) (fun h => ?_)
        | refine LexA.nil ?_
      · refine ⟨trivial, ⟨congrArg (AV.int .i64) ?_, rfl, rfl, congrArg (AV.int .i64) ?_, trivial⟩, [_], grow rfl⟩
        · have h1 := sizeL_take hi
          have h2 := sizeL_le (is := is) (i + 1)
          show IntKind.i64.wrap (((bs.length + Oct.sizeL (is.take i) : Nat) : Int) + ((is[i]).size : Nat)) = _
          rw [wrap64 (by omega) (by omega)]
          omega
        · have := length_le_sizeL is
          show IntKind.i64.wrap ((i : Int) + 1) = _
          rw [wrap64 (by omega) (by omega)]
          omega
      · simp at h
        omega
    · repeat' first
        | refine WpA.seq ?_
        | refine WpA.region ?_
        | refine WpOps.op _ rfl rfl rfl rfl rfl ?_
        | refine WpOps.box _ rfl rfl rfl rfl rfl ?_
        | refine WpOps.alloc _ rfl rfl rfl rfl rfl rfl ?_
        | refine WpOps.store rfl rfl rfl rfl rfl rfl rfl rfl rfl rfl ?_
        | refine WpOps.skip rfl rfl rfl ?_
        | refine WpOps.build _ rfl rfl rfl rfl rfl ?_
        | refine WpOps.sh _ rfl rfl rfl rfl rfl ?_
        | refine WpOps.gsplit _ rfl rfl rfl (fun h => ?_) (fun h => ?_)
        | refine WpA.block ?_
        | refine WpA.exit ?_
        | refine WpOps.nil ?_
        | refine WpA.ret ?_
        | refine WpA.skip ?_
        | refine WpA.condT rfl ?_
        | refine WpA.condF rfl ?_
        | refine WpA.cond _ rfl (fun h => ?_) (fun h => ?_)
        | refine WpA.draw (by kernel_rfl) ?_
        | refine LexA.op _ rfl rfl rfl rfl rfl ?_
        | refine LexA.skip rfl rfl rfl ?_
        | refine LexA.build _ rfl rfl rfl rfl rfl ?_
        | refine LexA.sh _ rfl rfl rfl rfl rfl ?_
        | refine LexA.gsplit _ rfl rfl rfl (fun h => ?_) (fun h => ?_)
        | refine LexA.nil ?_
      · simp at h
      · have hw : wide (bs.length + Oct.sizeL is) ≤ 9 := wide_le _ (by omega)
        have hL : is.take is.length = is := List.take_length
        have hW : ∀ H, CallsA E 90 [.int .i64 ((bs.length + Oct.sizeL (is.take is.length) : Nat) : Int)] H (Is H (.int .i64 (wide (bs.length + Oct.sizeL is)))) := fun H => by rw [hL]; exact wide_A _ H (by omega)
        repeat' first
          | refine WpA.seq ?_
          | refine WpA.region ?_
          | refine WpOps.op _ rfl rfl rfl rfl rfl ?_
          | refine WpOps.box _ rfl rfl rfl rfl rfl ?_
          | refine WpOps.alloc _ rfl rfl rfl rfl rfl rfl ?_
          | refine WpOps.store rfl rfl rfl rfl rfl rfl rfl rfl rfl rfl ?_
          | refine WpOps.skip rfl rfl rfl ?_
          | refine WpOps.build _ rfl rfl rfl rfl rfl ?_
          | refine WpOps.sh _ rfl rfl rfl rfl rfl ?_
          | (refine WpOps.call rfl rfl rfl rfl rfl (by exact hW _) ?_; rintro _ _ ⟨rfl, rfl⟩)
          | refine WpOps.gsplit _ rfl rfl rfl (fun h => ?_) (fun h => ?_)
          | refine WpA.block ?_
          | refine WpA.exit ?_
          | refine WpOps.nil ?_
          | refine WpA.ret ?_
          | refine WpA.skip ?_
          | refine WpA.condT rfl ?_
          | refine WpA.condF rfl ?_
          | refine WpA.cond _ rfl (fun h => ?_) (fun h => ?_)
          | refine WpA.draw (by kernel_rfl) ?_
          | refine LexA.op _ rfl rfl rfl rfl rfl ?_
          | refine LexA.skip rfl rfl rfl ?_
          | refine LexA.build _ rfl rfl rfl rfl rfl ?_
          | refine LexA.sh _ rfl rfl rfl rfl rfl ?_
          | refine LexA.call rfl rfl rfl rfl rfl (by exact hW _) ?_
          | refine LexA.gsplit _ rfl rfl rfl (fun h => ?_) (fun h => ?_)
          | refine LexA.nil ?_
        refine retK.ok rfl rfl (congrArg (AV.int .i64) ?_) .int
        rw [hL, size_mk]
        show IntKind.i64.wrap (IntKind.i64.wrap (1 + (wide (bs.length + Oct.sizeL is) : Nat)) + ((bs.length + Oct.sizeL is : Nat) : Int)) = _
        rw [wrap64 (x := 1 + _) (by omega) (by omega), wrap64 (by omega) (by omega)]
        omega
termination_by o => SizeOf.sizeOf o
decreasing_by exact sizeOf_get h
end Go.Gp.Tryd

/- The octet codec: encodings. -/
namespace Go.Gp.Tryd
open Go.Proofs
set_option linter.unusedVariables false
set_option linter.unusedSimpArgs false
set_option maxHeartbeats 4000000
set_option maxRecDepth 100000

def lenB (n : Nat) : List UInt8 := if n < 128 then [UInt8.ofNat n] else UInt8.ofNat (128 + (wide n - 1)) :: beN n (wide n - 1)

mutual
def Oct.enc0 : Oct → List UInt8
  | .mk t bs is => t :: (lenB (bs.length + Oct.sizeL is) ++ (bs ++ Oct.encL is))
def Oct.encL : List Oct → List UInt8
  | [] => []
  | o :: os => o.enc0 ++ Oct.encL os
end
def Oct.enc (o : Oct) : List UInt8 := o.tag :: (lenB (o.bs.length + Oct.sizeL o.items) ++ (o.bs ++ Oct.encL o.items))
theorem enc_eq (o : Oct) : o.enc0 = o.enc := by cases o; simp only [Oct.enc0, Oct.enc, Oct.tag, Oct.bs, Oct.items]
theorem encL_cons (o : Oct) (os : List Oct) : Oct.encL (o :: os) = o.enc ++ Oct.encL os := by rw [← enc_eq]; simp only [Oct.encL]
theorem encL_nil : Oct.encL [] = [] := by simp only [Oct.encL]
theorem encL_append : ∀ (xs ys : List Oct), Oct.encL (xs ++ ys) = Oct.encL xs ++ Oct.encL ys
  | [], ys => by rw [encL_nil]; rfl
  | x :: xs, ys => by rw [List.cons_append, encL_cons, encL_append xs ys, encL_cons, List.append_assoc]
theorem encL_take {is : List Oct} {i : Nat} (h : i < is.length) : Oct.encL (is.take (i + 1)) = Oct.encL (is.take i) ++ is[i].enc := by
  rw [List.take_succ_eq_append_getElem h, encL_append, encL_cons, encL_nil, List.append_nil]

theorem beN_length (x : Nat) : ∀ n, (beN x n).length = n
  | 0 => rfl
  | n + 1 => by rw [beN, List.length_cons, beN_length x n]
theorem beN_get (x : Nat) : ∀ {n i : Nat}, i < n → (beN x n)[i]? = some (UInt8.ofNat (x / 2 ^ (8 * (n - 1 - i))))
  | n + 1, 0, _ => by rw [beN]; simp
  | n + 1, i + 1, h => by
    rw [beN, List.getElem?_cons_succ, beN_get x (by omega)]
    congr 5
    omega
theorem beN_take (x : Nat) {n i : Nat} (h : i < n) : (beN x n).take (i + 1) = (beN x n).take i ++ [UInt8.ofNat (x / 2 ^ (8 * (n - 1 - i)))] := by
  rw [List.take_add_one, beN_get x h]; rfl
theorem lenB_length (n : Nat) : (lenB n).length = wide n := by
  unfold lenB
  split
  · rw [wide, if_pos (by assumption)]; rfl
  · rw [List.length_cons, beN_length, wide, if_neg (by assumption)]; omega
mutual
theorem enc0_length : ∀ o : Oct, o.enc0.length = o.size
  | .mk t bs is => by
    have := encL_length is
    rw [Oct.enc0, size_mk]
    simp only [List.length_cons, List.length_append, lenB_length, this]
    omega
theorem encL_length : ∀ os : List Oct, (Oct.encL os).length = Oct.sizeL os
  | [] => by simp [Oct.encL, Oct.sizeL]
  | o :: os => by
    have h1 := enc0_length o
    have h2 := encL_length os
    rw [Oct.encL, List.length_append, h1, h2, sizeL_cons]
end
theorem enc_length (o : Oct) : o.enc.length = o.size := by rw [← enc_eq]; exact enc0_length o

theorem wide_ge {n : Nat} (h : 128 ≤ n) : 2 ≤ wide n := by
  have := bitLen_shift (x := n) (k := 7) h
  have h1 : 0 < n / 2 ^ 7 := Nat.div_pos h (by decide)
  have h2 : 1 ≤ bitLen (n / 2 ^ 7) := by unfold bitLen; rw [if_neg (by omega)]; omega
  unfold wide
  rw [if_neg (by omega)]
  omega

theorem put_A : ∀ (o : Oct) (b : List UInt8) (m q : Nat) (H : List AObj), H[m + q]? = some (.tail b.length 1) → b.length + o.size ≤ 1125899906842 →
    CallsA E 74 [.sl (.row m q) 1 (b.map byteRow), .agg o.cells] H (rowIs H m q (b ++ o.enc))
  | .mk tg bs is, b, m, q, H, hH, hs => by
    have hs' := hs
    rw [size_mk] at hs'
    have hmq := get_lt hH
    have hsz : ∀ (i : Nat) (h : i < is.length) (H : List AObj), CallsA E 89 [.agg (is[i]).cells] H (Is H (.int .i64 (is[i]).size)) := fun i h H => size_A is[i] H (by have := size_get h; omega)
    have ih : ∀ (i : Nat) (h : i < is.length) (b : List UInt8) (H : List AObj), H[m + q]? = some (.tail b.length 1) → b.length + (is[i]).size ≤ 1125899906842 →
      CallsA E 74 [.sl (.row m q) 1 (b.map byteRow), .agg (is[i]).cells] H (rowIs H m q (b ++ (is[i]).enc)) := fun i h b H h1 h2 => put_A is[i] b m q H h1 h2
    have hlen := length_le_sizeL is
    have hw : wide (bs.length + Oct.sizeL is) ≤ 9 := wide_le _ (by omega)
    refine .enter Tryd.func74 rfl rfl rfl 78 Tryd.ntmps74 (Nat.le_of_ble_eq_true rfl) ?_
    repeat' first
      | refine WpA.seq ?_
      | refine WpA.region ?_
      | refine WpOps.op _ rfl rfl rfl rfl rfl ?_
      | refine WpOps.box _ rfl rfl rfl rfl rfl ?_
      | refine WpOps.alloc _ rfl rfl rfl rfl rfl rfl ?_
      | refine WpOps.store rfl rfl rfl rfl rfl rfl rfl rfl rfl rfl ?_
      | refine WpOps.skip rfl rfl rfl ?_
      | refine WpOps.build _ rfl rfl rfl rfl rfl ?_
      | refine WpOps.sh _ rfl rfl rfl rfl rfl ?_
      | refine WpOps.gsplit _ rfl rfl rfl (fun h => ?_) (fun h => ?_)
      | refine WpA.block ?_
      | refine WpA.exit ?_
      | refine WpOps.nil ?_
      | refine WpA.ret ?_
      | refine WpA.skip ?_
      | refine WpA.condT rfl ?_
      | refine WpA.condF rfl ?_
      | refine WpA.cond _ rfl (fun h => ?_) (fun h => ?_)
      | refine WpA.draw (by kernel_rfl) ?_
      | refine LexA.op _ rfl rfl rfl rfl rfl ?_
      | refine LexA.skip rfl rfl rfl ?_
      | refine LexA.build _ rfl rfl rfl rfl rfl ?_
      | refine LexA.sh _ rfl rfl rfl rfl rfl ?_
      | refine LexA.gsplit _ rfl rfl rfl (fun h => ?_) (fun h => ?_)
      | refine LexA.nil ?_
    refine WpA.loopG is.length (fun i => [(0, .sl (.row m q) 1 (b.map byteRow)), (3, .ptr H.length 0 0), (5, .int .i64 ((bs.length + Oct.sizeL (is.take i) : Nat) : Int)), (16, .sl .no 3 (Oct.cellsL is)), (17, .int .i64 (is.length : Nat)), (18, .int .i64 (i : Nat))])
      (fun _ => H ++ [.cells (Oct.mk tg bs is).cells]) (fun _ => True) trivial ⟨rfl, rfl, ?_, rfl, ?_, rfl, trivial⟩ rfl (fun _ _ => rfl) (fun _ _ _ => TrOk.refl _) (fun i hi _ => ?_) (fun i hi _ => ?_) (fun _ => ?_) (fun _ => ⟨rfl, rfl, rfl, rfl, rfl, rfl, trivial⟩)
    · show AV.int .i64 ((bs.map byteRow).length : Nat) = _
      simp [Oct.sizeL]
    · show AV.int .i64 ((Oct.cellsL is).length : Nat) = _
      rw [cellsL_length]
    · exact ⟨bd_rowB (by simp; omega) b, .ptr (by simp), .int, .sl (fun _ _ e => by cases e) (Oct.bdL _ is), .int, .int, trivial⟩
    · have hc : (Oct.cellsL is)[((i : Nat) : Int).toNat]? = some (is[i]).cells := by rw [Int.toNat_natCast]; exact cellsL_get hi
      repeat' first
        | refine WpA.seq ?_
        | refine WpA.region ?_
        | refine WpOps.op _ rfl rfl rfl rfl rfl ?_
        | refine WpOps.box _ rfl rfl rfl rfl rfl ?_
        | refine WpOps.alloc _ rfl rfl rfl rfl rfl rfl ?_
        | refine WpOps.store rfl rfl rfl rfl rfl rfl rfl rfl rfl rfl ?_
        | refine WpOps.skip rfl rfl rfl ?_
        | refine WpOps.build _ rfl rfl rfl rfl rfl ?_
        | refine WpOps.sh _ rfl rfl rfl rfl rfl ?_
        | (refine WpOps.call rfl rfl rfl rfl rfl (by exact hsz i hi _) ?_; rintro _ _ ⟨rfl, rfl⟩)
        | refine WpOps.elem (is[i]).cells rfl rfl rfl rfl rfl rfl rfl rfl rfl (Int.natCast_nonneg i) hc ?_
        | refine WpOps.gsplit _ rfl rfl rfl (fun h => ?_) (fun h => ?_)
        | refine WpA.block ?_
        | refine WpA.exit ?_
        | refine WpOps.nil ?_
        | refine WpA.ret ?_
        | refine WpA.skip ?_
        | refine WpA.condT rfl ?_
        | refine WpA.condF rfl ?_
        | refine WpA.cond _ rfl (fun h => ?_) (fun h => ?_)
        | refine WpA.draw (by kernel_rfl) ?_
        | refine LexA.op _ rfl rfl rfl rfl rfl ?_
        | refine LexA.skip rfl rfl rfl ?_
        | refine LexA.build _ rfl rfl rfl rfl rfl ?_
        | refine LexA.sh _ rfl rfl rfl rfl rfl ?_
        | refine LexA.call rfl rfl rfl rfl rfl (by exact hsz i hi _) ?_
        | refine LexA.gsplit _ rfl rfl rfl (fun h => ?_) (fun h => ?_)
        | refine LexA.nil ?_
      · refine ⟨trivial, ⟨rfl, rfl, congrArg (AV.int .i64) ?_, rfl, rfl, congrArg (AV.int .i64) ?_, trivial⟩, [_], grow rfl⟩
        · have h1 := sizeL_take hi
          have h2 := sizeL_le (is := is) (i + 1)
          show IntKind.i64.wrap (((bs.length + Oct.sizeL (is.take i) : Nat) : Int) + ((is[i]).size : Nat)) = _
          rw [wrap64 (by omega) (by omega)]
          omega
        · show IntKind.i64.wrap ((i : Int) + 1) = _
          rw [wrap64 (by omega) (by omega)]
          omega
      · simp at h
        omega
    · have hL : is.take is.length = is := List.take_length
      rw [hL]
      generalize hn : bs.length + Oct.sizeL is = n at *
      have hW : ∀ H, CallsA E 90 [.int .i64 (n : Int)] H (Is H (.int .i64 (wide n))) := fun H => wide_A _ H (by omega)
      repeat' first
        | refine WpA.seq ?_
        | refine WpA.region ?_
        | refine WpOps.op _ rfl rfl rfl rfl rfl ?_
        | refine WpOps.box _ rfl rfl rfl rfl rfl ?_
        | refine WpOps.alloc _ rfl rfl rfl rfl rfl rfl ?_
        | refine WpOps.store rfl rfl rfl rfl rfl rfl rfl rfl rfl rfl ?_
        | refine WpOps.skip rfl rfl rfl ?_
        | refine WpOps.build _ rfl rfl rfl rfl rfl ?_
        | refine WpOps.sh _ rfl rfl rfl rfl rfl ?_
        | refine WpOps.gsplit _ rfl rfl rfl (fun h => ?_) (fun h => ?_)
        | refine WpA.block ?_
        | refine WpA.exit ?_
        | refine WpOps.nil ?_
        | refine WpA.ret ?_
        | refine WpA.skip ?_
        | refine WpA.condT rfl ?_
        | refine WpA.condF rfl ?_
        | refine WpA.draw (by kernel_rfl) ?_
        | refine LexA.op _ rfl rfl rfl rfl rfl ?_
        | refine LexA.skip rfl rfl rfl ?_
        | refine LexA.build _ rfl rfl rfl rfl rfl ?_
        | refine LexA.sh _ rfl rfl rfl rfl rfl ?_
        | refine LexA.gsplit _ rfl rfl rfl (fun h => ?_) (fun h => ?_)
        | refine LexA.nil ?_
      refine WpA.cond _ rfl (fun h => ?_) (fun h => ?_)
      · simp at h
      have hnn := hn
      clear h hn hL hsz
      repeat' first
        | refine WpA.seq ?_
        | refine WpA.region ?_
        | refine WpOps.op _ rfl rfl rfl rfl rfl ?_
        | refine WpOps.box _ rfl rfl rfl rfl rfl ?_
        | refine WpOps.alloc _ rfl rfl rfl rfl rfl rfl ?_
        | refine WpOps.store rfl rfl rfl rfl rfl rfl rfl rfl rfl rfl ?_
        | refine WpOps.skip rfl rfl rfl ?_
        | refine WpOps.build _ rfl rfl rfl rfl rfl ?_
        | refine WpOps.sh _ rfl rfl rfl rfl rfl ?_
        | (refine WpOps.call rfl rfl rfl rfl rfl (by exact hW _) ?_; rintro _ _ ⟨rfl, rfl⟩)
        | (refine WpOps.buildSlice _ rfl rfl rfl rfl rfl rfl rfl rfl rfl rfl rfl ?_)
        | (refine WpOps.appB [tg] hH (by simp; omega) rfl rfl rfl rfl rfl rfl rfl (fun k h => by cases h) rfl rfl rfl rfl rfl (fun B hB hBl => ?_))
        | refine WpOps.gsplit _ rfl rfl rfl (fun h => ?_) (fun h => ?_)
        | refine WpA.block ?_
        | refine WpA.exit ?_
        | refine WpOps.nil ?_
        | refine WpA.ret ?_
        | refine WpA.skip ?_
        | refine WpA.condT rfl ?_
        | refine WpA.condF rfl ?_
        | refine WpA.draw (by kernel_rfl) ?_
        | refine LexA.op _ rfl rfl rfl rfl rfl ?_
        | refine LexA.skip rfl rfl rfl ?_
        | refine LexA.build _ rfl rfl rfl rfl rfl ?_
        | refine LexA.sh _ rfl rfl rfl rfl rfl ?_
        | refine LexA.call rfl rfl rfl rfl rfl (by exact hW _) ?_
        | refine LexA.gsplit _ rfl rfl rfl (fun h => ?_) (fun h => ?_)
        | refine LexA.nil ?_
      rw [hBl]
      obtain ⟨B1, hB1⟩ : ∃ B1 : List AObj, B1 = H.set (m + q) (.tail (b ++ tg :: lenB n).length 1) := ⟨_, rfl⟩
      have hB1l : B.length = B1.length := by rw [hB, hB1]; simp
      have hB0 : B[m + q]? = some (.tail (b ++ [tg]).length 1) := by rw [hB, List.getElem?_set_self hmq]
      have hlb := lenB_length n
      refine WpA.joinS [(0, .sl (.row m q) 1 ((b ++ tg :: lenB n).map byteRow)), (3, .ptr B1.length 0 0), (5, .int .i64 (n : Nat))] (B1 ++ [.cells (Oct.mk tg bs is).cells]) ?_ ?_
      · refine WpA.cond _ rfl (fun h => ?_) (fun h => ?_)
        · have hk : IntKind.i64.wrap ((wide n : Int) - 1) = 0 := by simpa using h
          rw [wrap64 (by omega) (by omega)] at hk
          have hn : n < 128 := by
            rcases Nat.lt_or_ge n 128 with h | h
            · exact h
            · have := wide_ge h; omega
          have hlb : lenB n = [UInt8.ofNat n] := by rw [lenB, if_pos hn]
          repeat' first
            | refine WpA.seq ?_
            | refine WpA.region ?_
            | refine WpOps.op _ rfl rfl rfl rfl rfl ?_
            | refine WpOps.box _ rfl rfl rfl rfl rfl ?_
            | refine WpOps.alloc _ rfl rfl rfl rfl rfl rfl ?_
            | refine WpOps.store rfl rfl rfl rfl rfl rfl rfl rfl rfl rfl ?_
            | refine WpOps.skip rfl rfl rfl ?_
            | refine WpOps.build _ rfl rfl rfl rfl rfl ?_
            | refine WpOps.sh _ rfl rfl rfl rfl rfl ?_
            | (refine WpOps.buildSlice _ rfl rfl rfl rfl rfl rfl rfl rfl rfl rfl rfl ?_)
            | (refine WpOps.appB [UInt8.ofNat n] hB0 (by simp; omega) rfl rfl rfl rfl rfl rfl rfl (fun k h => by cases h) rfl rfl rfl rfl (row1 n) (fun B' hB' hBl' => ?_))
            | refine WpOps.gsplit _ rfl rfl rfl (fun h => ?_) (fun h => ?_)
            | refine WpA.block ?_
            | refine WpA.exit ?_
            | refine WpOps.nil ?_
            | refine WpA.ret ?_
            | refine WpA.skip ?_
            | refine WpA.condT rfl ?_
            | refine WpA.condF rfl ?_
            | refine WpA.cond _ rfl (fun h => ?_) (fun h => ?_)
            | refine WpA.draw (by kernel_rfl) ?_
            | refine LexA.op _ rfl rfl rfl rfl rfl ?_
            | refine LexA.skip rfl rfl rfl ?_
            | refine LexA.build _ rfl rfl rfl rfl rfl ?_
            | refine LexA.sh _ rfl rfl rfl rfl rfl ?_
            | refine LexA.gsplit _ rfl rfl rfl (fun h => ?_) (fun h => ?_)
            | refine LexA.nil ?_
          have e1 : (b ++ [tg]) ++ [UInt8.ofNat n] = b ++ tg :: lenB n := by rw [hlb]; simp
          have e2 : B' = B1 := by rw [hB', hB1, hB, List.set_set, e1]
          subst e2
          rw [hBl', e1]
          exact ⟨⟨rfl, rfl, rfl, trivial⟩, rfl⟩
        · have hk : IntKind.i64.wrap ((wide n : Int) - 1) ≠ 0 := by simpa using h
          rw [wrap64 (by omega) (by omega)] at hk
          have hn : 128 ≤ n := by
            rcases Nat.lt_or_ge n 128 with h | h
            · exact absurd (by rw [wide, if_pos h]; rfl) hk
            · exact h
          obtain ⟨kk, hkk⟩ : ∃ kk : Nat, wide n = kk + 1 := ⟨wide n - 1, by have := wide_ge hn; omega⟩
          have hlb2 : lenB n = UInt8.ofNat (128 + kk) :: beN n kk := by rw [lenB, if_neg (by omega), hkk]; rfl
          have e128 : IntKind.i64.wrap (128 + IntKind.i64.wrap ((wide n : Int) - 1)) = ((128 + kk : Nat) : Int) := by
            rw [wrap64 (x := (wide n : Int) - 1) (by omega) (by omega), wrap64 (by omega) (by omega)]
            omega
          repeat' first
            | refine WpA.seq ?_
            | refine WpA.region ?_
            | refine WpOps.op _ rfl rfl rfl rfl rfl ?_
            | refine WpOps.box _ rfl rfl rfl rfl rfl ?_
            | refine WpOps.alloc _ rfl rfl rfl rfl rfl rfl ?_
            | refine WpOps.store rfl rfl rfl rfl rfl rfl rfl rfl rfl rfl ?_
            | refine WpOps.skip rfl rfl rfl ?_
            | refine WpOps.build _ rfl rfl rfl rfl rfl ?_
            | refine WpOps.sh _ rfl rfl rfl rfl rfl ?_
            | (refine WpOps.buildSlice _ rfl rfl rfl rfl rfl rfl rfl rfl rfl rfl rfl ?_)
            | (refine WpOps.appB [UInt8.ofNat (128 + kk)] hB0 (by simp; omega) rfl rfl rfl rfl rfl rfl rfl (fun k h => by cases h) rfl rfl rfl rfl (by show [[AV.int .u8 (IntKind.u8.wrap (IntKind.i64.wrap (128 + IntKind.i64.wrap ((wide n : Int) - 1))))]] = _; rw [e128]; exact row1 _) (fun B' hB' hBl' => ?_))
            | refine WpOps.gsplit _ rfl rfl rfl (fun h => ?_) (fun h => ?_)
            | refine WpA.block ?_
            | refine WpA.exit ?_
            | refine WpOps.nil ?_
            | refine WpA.ret ?_
            | refine WpA.skip ?_
            | refine WpA.condT rfl ?_
            | refine WpA.condF rfl ?_
            | refine WpA.cond _ rfl (fun h => ?_) (fun h => ?_)
            | refine WpA.draw (by kernel_rfl) ?_
            | refine LexA.op _ rfl rfl rfl rfl rfl ?_
            | refine LexA.skip rfl rfl rfl ?_
            | refine LexA.build _ rfl rfl rfl rfl rfl ?_
            | refine LexA.sh _ rfl rfl rfl rfl rfl ?_
            | refine LexA.gsplit _ rfl rfl rfl (fun h => ?_) (fun h => ?_)
            | refine LexA.nil ?_
          rw [hBl']
          have hb' : B' = H.set (m + q) (.tail (b ++ [tg] ++ [UInt8.ofNat (128 + kk)] ++ (beN n kk).take 0).length 1) := by rw [hB', hB, List.set_set]; simp
          refine WpA.loopFor kk (fun i => [(0, .sl (.row m q) 1 ((b ++ [tg] ++ [UInt8.ofNat (128 + kk)] ++ (beN n kk).take i).map byteRow)), (3, .ptr B1.length 0 0), (5, .int .i64 (n : Nat)), (9, .int .i64 ((kk : Int) - 1 - (i : Nat)))])
            (fun i => H.set (m + q) (.tail (b ++ [tg] ++ [UInt8.ofNat (128 + kk)] ++ (beN n kk).take i).length 1) ++ [.cells (Oct.mk tg bs is).cells]) (fun _ => True) trivial ⟨?_, ?_, rfl, ?_, trivial⟩ (by rw [← hb']) (fun i hi _ => ?_) (fun _ => ?_)
          · show AV.sl (.row m q) 1 ((b ++ [tg] ++ [UInt8.ofNat (128 + kk)]).map byteRow) = _
            rw [List.take_zero, List.append_nil]
          · show AV.ptr B'.length 0 0 = _
            rw [hB', hB, hB1]; simp
          · show AV.int .i64 (IntKind.i64.wrap (IntKind.i64.wrap ((wide n : Int) - 1) - 1)) = _
            rw [wrap64 (x := (wide n : Int) - 1) (by omega) (by omega), wrap64 (by omega) (by omega)]
            congr 1
            omega
          · have hi9 : (kk : Int) - 1 - (i : Nat) = ((kk - 1 - i : Nat) : Int) := by omega
            rw [hi9]
            obtain ⟨B2, hB2⟩ : ∃ B2 : List AObj, B2 = H.set (m + q) (.tail (b ++ [tg] ++ [UInt8.ofNat (128 + kk)] ++ (beN n kk).take i).length 1) := ⟨_, rfl⟩
            have hB20 : B2[m + q]? = some (.tail (b ++ [tg] ++ [UInt8.ofNat (128 + kk)] ++ (beN n kk).take i).length 1) := by rw [hB2, List.getElem?_set_self hmq]
            have hB2l : B1.length = B2.length := by rw [hB1, hB2]; simp
            rw [← hB2, hB2l]
            have e8 : IntKind.i64.wrap (8 * ((kk - 1 - i : Nat) : Int)) = ((8 * (kk - 1 - i) : Nat) : Int) := by rw [wrap64 (by omega) (by omega)]; omega
            have hby : IntKind.u8.wrap ((n : Int).fdiv (2 ^ min (IntKind.i64.wrap (8 * ((kk - 1 - i : Nat) : Int))).toNat IntKind.i64.bits)) = IntKind.u8.wrap ((n / 2 ^ (8 * (kk - 1 - i)) : Nat) : Int) := by
              rw [e8, Int.toNat_natCast, show min (8 * (kk - 1 - i)) IntKind.i64.bits = 8 * (kk - 1 - i) from by show min _ 64 = _; omega, fdiv_nat]
            have htk := beN_take n hi
            have hbl := beN_length n kk
            repeat' first
              | refine WpA.seq ?_
              | refine WpA.region ?_
              | refine WpOps.op _ rfl rfl rfl rfl rfl ?_
              | refine WpOps.box _ rfl rfl rfl rfl rfl ?_
              | refine WpOps.alloc _ rfl rfl rfl rfl rfl rfl ?_
              | refine WpOps.store rfl rfl rfl rfl rfl rfl rfl rfl rfl rfl ?_
              | refine WpOps.skip rfl rfl rfl ?_
              | refine WpOps.build _ rfl rfl rfl rfl rfl ?_
              | refine WpOps.sh _ rfl rfl rfl rfl rfl ?_
              | (refine WpOps.p1 rfl rfl rfl (.shr rfl rfl rfl (by show (0 : Int) ≤ IntKind.i64.wrap (8 * ((kk - 1 - i : Nat) : Int)); rw [e8]; omega)) ?_)
              | (refine WpOps.buildSlice _ rfl rfl rfl rfl rfl rfl rfl rfl rfl rfl rfl ?_)
              | (refine WpOps.appB [UInt8.ofNat (n / 2 ^ (8 * (kk - 1 - i)))] hB20 (by simp; omega) rfl rfl rfl rfl rfl rfl rfl (fun k h => by cases h) rfl rfl rfl rfl (by show [[AV.int .u8 (IntKind.u8.wrap ((n : Int).fdiv (2 ^ min (IntKind.i64.wrap (8 * ((kk - 1 - i : Nat) : Int))).toNat IntKind.i64.bits)))]] = _; rw [hby]; exact row1 _) (fun B' hB' hBl' => ?_))
              | refine WpOps.gsplit _ rfl rfl rfl (fun h => ?_) (fun h => ?_)
              | refine WpA.block ?_
              | refine WpA.exit ?_
              | refine WpOps.nil ?_
              | refine WpA.ret ?_
              | refine WpA.skip ?_
              | refine WpA.condT rfl ?_
              | refine WpA.condF rfl ?_
              | refine WpA.cond _ rfl (fun h => ?_) (fun h => ?_)
              | refine WpA.draw (by kernel_rfl) ?_
              | refine LexA.op _ rfl rfl rfl rfl rfl ?_
              | refine LexA.skip rfl rfl rfl ?_
              | refine LexA.build _ rfl rfl rfl rfl rfl ?_
              | refine LexA.sh _ rfl rfl rfl rfl rfl ?_
              | refine LexA.gsplit _ rfl rfl rfl (fun h => ?_) (fun h => ?_)
              | refine LexA.nil ?_
            · have e1 : (b ++ [tg] ++ [UInt8.ofNat (128 + kk)] ++ (beN n kk).take i) ++ [UInt8.ofNat (n / 2 ^ (8 * (kk - 1 - i)))] = b ++ [tg] ++ [UInt8.ofNat (128 + kk)] ++ (beN n kk).take (i + 1) := by rw [htk]; simp
              rw [e1] at hB' ⊢
              refine ⟨trivial, ⟨rfl, ?_, rfl, ?_, trivial⟩, by rw [hB', hB2, List.set_set]⟩
              · show AV.ptr B2.length 0 0 = _
                rw [← hB2l]
              · show AV.int .i64 (IntKind.i64.wrap (((kk - 1 - i : Nat) : Int) - 1)) = _
                rw [wrap64 (by omega) (by omega)]
                congr 1
                omega
          · repeat' first
              | refine WpA.seq ?_
              | refine WpA.region ?_
              | refine WpOps.op _ rfl rfl rfl rfl rfl ?_
              | refine WpOps.box _ rfl rfl rfl rfl rfl ?_
              | refine WpOps.alloc _ rfl rfl rfl rfl rfl rfl ?_
              | refine WpOps.store rfl rfl rfl rfl rfl rfl rfl rfl rfl rfl ?_
              | refine WpOps.skip rfl rfl rfl ?_
              | refine WpOps.build _ rfl rfl rfl rfl rfl ?_
              | refine WpOps.sh _ rfl rfl rfl rfl rfl ?_
              | refine WpOps.gsplit _ rfl rfl rfl (fun h => ?_) (fun h => ?_)
              | refine WpA.block ?_
              | refine WpA.exit ?_
              | refine WpOps.nil ?_
              | refine WpA.ret ?_
              | refine WpA.skip ?_
              | refine WpA.condT rfl ?_
              | refine WpA.condF rfl ?_
              | refine WpA.cond _ rfl (fun h => ?_) (fun h => ?_)
              | refine WpA.draw (by kernel_rfl) ?_
              | refine LexA.op _ rfl rfl rfl rfl rfl ?_
              | refine LexA.skip rfl rfl rfl ?_
              | refine LexA.build _ rfl rfl rfl rfl rfl ?_
              | refine LexA.sh _ rfl rfl rfl rfl rfl ?_
              | refine LexA.gsplit _ rfl rfl rfl (fun h => ?_) (fun h => ?_)
              | refine LexA.nil ?_
            · have : (0 : Int) ≤ (kk : Int) - 1 - (kk : Nat) := by simpa using h
              omega
            · have e1 : b ++ [tg] ++ [UInt8.ofNat (128 + kk)] ++ (beN n kk).take kk = b ++ tg :: lenB n := by
                rw [List.take_of_length_le (by rw [beN_length]; omega), hlb2]; simp
              rw [e1, hB1]
              exact ⟨⟨rfl, rfl, rfl, trivial⟩, rfl⟩
      · have hB10 : B1[m + q]? = some (.tail (b ++ tg :: lenB n).length 1) := by rw [hB1, List.getElem?_set_self hmq]
        have hsb : bs.length ≤ n := by omega
        repeat' first
          | refine WpA.seq ?_
          | refine WpA.region ?_
          | refine WpOps.op _ rfl rfl rfl rfl rfl ?_
          | refine WpOps.box _ rfl rfl rfl rfl rfl ?_
          | refine WpOps.alloc _ rfl rfl rfl rfl rfl rfl ?_
          | refine WpOps.store rfl rfl rfl rfl rfl rfl rfl rfl rfl rfl ?_
          | refine WpOps.skip rfl rfl rfl ?_
          | refine WpOps.build _ rfl rfl rfl rfl rfl ?_
          | refine WpOps.sh _ rfl rfl rfl rfl rfl ?_
          | (refine WpOps.appB bs hB10 (by simp; omega) rfl rfl rfl rfl rfl rfl rfl (fun k h => by cases h) rfl rfl rfl rfl rfl (fun B' hB' hBl' => ?_))
          | refine WpOps.gsplit _ rfl rfl rfl (fun h => ?_) (fun h => ?_)
          | refine WpA.block ?_
          | refine WpA.exit ?_
          | refine WpOps.nil ?_
          | refine WpA.ret ?_
          | refine WpA.skip ?_
          | refine WpA.condT rfl ?_
          | refine WpA.condF rfl ?_
          | refine WpA.cond _ rfl (fun h => ?_) (fun h => ?_)
          | refine WpA.draw (by kernel_rfl) ?_
          | refine LexA.op _ rfl rfl rfl rfl rfl ?_
          | refine LexA.skip rfl rfl rfl ?_
          | refine LexA.build _ rfl rfl rfl rfl rfl ?_
          | refine LexA.sh _ rfl rfl rfl rfl rfl ?_
          | refine LexA.gsplit _ rfl rfl rfl (fun h => ?_) (fun h => ?_)
          | refine LexA.nil ?_
        rw [hBl']
        repeat' first
          | refine WpA.seq ?_
          | refine WpA.region ?_
          | refine WpOps.op _ rfl rfl rfl rfl rfl ?_
          | refine WpOps.box _ rfl rfl rfl rfl rfl ?_
          | refine WpOps.alloc _ rfl rfl rfl rfl rfl rfl ?_
          | refine WpOps.store rfl rfl rfl rfl rfl rfl rfl rfl rfl rfl ?_
          | refine WpOps.skip rfl rfl rfl ?_
          | refine WpOps.build _ rfl rfl rfl rfl rfl ?_
          | refine WpOps.sh _ rfl rfl rfl rfl rfl ?_
          | refine WpOps.gsplit _ rfl rfl rfl (fun h => ?_) (fun h => ?_)
          | refine WpA.block ?_
          | refine WpA.exit ?_
          | refine WpOps.nil ?_
          | refine WpA.ret ?_
          | refine WpA.skip ?_
          | refine WpA.condT rfl ?_
          | refine WpA.condF rfl ?_
          | refine WpA.cond _ rfl (fun h => ?_) (fun h => ?_)
          | refine WpA.draw (by kernel_rfl) ?_
          | refine LexA.op _ rfl rfl rfl rfl rfl ?_
          | refine LexA.skip rfl rfl rfl ?_
          | refine LexA.build _ rfl rfl rfl rfl rfl ?_
          | refine LexA.sh _ rfl rfl rfl rfl rfl ?_
          | refine LexA.gsplit _ rfl rfl rfl (fun h => ?_) (fun h => ?_)
          | refine LexA.nil ?_
        have hB0' : B' = H.set (m + q) (.tail (b ++ tg :: lenB n ++ bs ++ Oct.encL (is.take 0)).length 1) := by rw [hB', hB1, List.set_set, List.take_zero, encL_nil, List.append_nil]
        refine WpA.loopG is.length (fun i => [(0, .sl (.row m q) 1 ((b ++ tg :: lenB n ++ bs ++ Oct.encL (is.take i)).map byteRow)), (67, .sl .no 3 (Oct.cellsL is)), (68, .int .i64 (is.length : Nat)), (69, .int .i64 (i : Nat))])
          (fun i => H.set (m + q) (.tail (b ++ tg :: lenB n ++ bs ++ Oct.encL (is.take i)).length 1) ++ [.cells (Oct.mk tg bs is).cells]) (fun _ => True) trivial ⟨?_, rfl, ?_, rfl, trivial⟩ (by rw [← hB0']) (fun _ _ => by simp) (fun _ _ _ => TrOk.set2 fun _ => obd_tail) (fun i hi _ => ?_) (fun i hi _ => ?_) (fun _ => ?_) (fun _ => ⟨rfl, rfl, rfl, rfl, trivial⟩)
        · show AV.sl (.row m q) 1 ((b ++ tg :: lenB n ++ bs).map byteRow) = _
          rw [List.take_zero, encL_nil, List.append_nil]
        · show AV.int .i64 ((Oct.cellsL is).length : Nat) = _
          rw [cellsL_length]
        · exact ⟨bd_rowB (by simp; omega) _, .sl (fun _ _ e => by cases e) (Oct.bdL _ is), .int, .int, trivial⟩
        · have hc : (Oct.cellsL is)[((i : Nat) : Int).toNat]? = some (is[i]).cells := by rw [Int.toNat_natCast]; exact cellsL_get hi
          obtain ⟨B2, hB2⟩ : ∃ B2 : List AObj, B2 = H.set (m + q) (.tail (b ++ tg :: lenB n ++ bs ++ Oct.encL (is.take i)).length 1) := ⟨_, rfl⟩
          have hB20 : B2[m + q]? = some (.tail (b ++ tg :: lenB n ++ bs ++ Oct.encL (is.take i)).length 1) := by rw [hB2, List.getElem?_set_self hmq]
          have hB2lt := get_lt hB20
          have h1 := sizeL_take hi
          have h2 := sizeL_le (is := is) (i + 1)
          have h3 := encL_length (is.take i)
          rw [← hB2]
          repeat' first
            | refine WpA.seq ?_
            | refine WpA.region ?_
            | refine WpOps.op _ rfl rfl rfl rfl rfl ?_
            | refine WpOps.box _ rfl rfl rfl rfl rfl ?_
            | refine WpOps.alloc _ rfl rfl rfl rfl rfl rfl ?_
            | refine WpOps.store rfl rfl rfl rfl rfl rfl rfl rfl rfl rfl ?_
            | refine WpOps.skip rfl rfl rfl ?_
            | refine WpOps.build _ rfl rfl rfl rfl rfl ?_
            | refine WpOps.sh _ rfl rfl rfl rfl rfl ?_
            | refine WpOps.elem (is[i]).cells rfl rfl rfl rfl rfl rfl rfl rfl rfl (Int.natCast_nonneg i) hc ?_
            | (refine WpOps.call rfl rfl rfl rfl rfl (by exact ih i hi _ _ (by rw [List.getElem?_append_left hB2lt]; exact hB20) (by simp; omega)) ?_; rintro _ _ ⟨rfl, rfl⟩; rw [List.set_append_left _ _ hB2lt])
            | refine WpOps.gsplit _ rfl rfl rfl (fun h => ?_) (fun h => ?_)
            | refine WpA.block ?_
            | refine WpA.exit ?_
            | refine WpOps.nil ?_
            | refine WpA.ret ?_
            | refine WpA.skip ?_
            | refine WpA.condT rfl ?_
            | refine WpA.condF rfl ?_
            | refine WpA.cond _ rfl (fun h => ?_) (fun h => ?_)
            | refine WpA.draw (by kernel_rfl) ?_
            | refine LexA.op _ rfl rfl rfl rfl rfl ?_
            | refine LexA.skip rfl rfl rfl ?_
            | refine LexA.build _ rfl rfl rfl rfl rfl ?_
            | refine LexA.sh _ rfl rfl rfl rfl rfl ?_
            | refine LexA.gsplit _ rfl rfl rfl (fun h => ?_) (fun h => ?_)
            | refine LexA.nil ?_
          · refine ⟨trivial, ⟨?_, rfl, rfl, congrArg (AV.int .i64) ?_, trivial⟩, [.cells (is[i]).cells], ?_⟩
            · show AV.sl (.row m q) 1 ((b ++ tg :: lenB n ++ bs ++ Oct.encL (is.take i) ++ (is[i]).enc).map byteRow) = _
              rw [encL_take hi, List.append_assoc]
            · show IntKind.i64.wrap ((i : Int) + 1) = _
              rw [wrap64 (by omega) (by omega)]
              omega
            · rw [hB2, List.set_set, encL_take hi, ← List.append_assoc (b ++ tg :: lenB n ++ bs)]
              exact grow rfl
          · simp at h
            omega
        · repeat' first
            | refine WpA.seq ?_
            | refine WpA.region ?_
            | refine WpOps.op _ rfl rfl rfl rfl rfl ?_
            | refine WpOps.box _ rfl rfl rfl rfl rfl ?_
            | refine WpOps.alloc _ rfl rfl rfl rfl rfl rfl ?_
            | refine WpOps.store rfl rfl rfl rfl rfl rfl rfl rfl rfl rfl ?_
            | refine WpOps.skip rfl rfl rfl ?_
            | refine WpOps.build _ rfl rfl rfl rfl rfl ?_
            | refine WpOps.sh _ rfl rfl rfl rfl rfl ?_
            | refine WpOps.gsplit _ rfl rfl rfl (fun h => ?_) (fun h => ?_)
            | refine WpA.block ?_
            | refine WpA.exit ?_
            | refine WpOps.nil ?_
            | refine WpA.ret ?_
            | refine WpA.skip ?_
            | refine WpA.condT rfl ?_
            | refine WpA.condF rfl ?_
            | refine WpA.cond _ rfl (fun h => ?_) (fun h => ?_)
            | refine WpA.draw (by kernel_rfl) ?_
            | refine LexA.op _ rfl rfl rfl rfl rfl ?_
            | refine LexA.skip rfl rfl rfl ?_
            | refine LexA.build _ rfl rfl rfl rfl rfl ?_
            | refine LexA.sh _ rfl rfl rfl rfl rfl ?_
            | refine LexA.gsplit _ rfl rfl rfl (fun h => ?_) (fun h => ?_)
            | refine LexA.nil ?_
          · simp at h
          · have e1 : b ++ tg :: lenB n ++ bs ++ Oct.encL (is.take is.length) = b ++ (Oct.mk tg bs is).enc := by
              rw [List.take_length]
              simp [Oct.enc, Oct.tag, Oct.bs, Oct.items, hnn]
            rw [e1]
            exact retK.tag (.inr rfl) (by simp) (.set1 obd_tail) rfl rfl (bd_rowB hmq _) ⟨rfl, rfl⟩
termination_by o => SizeOf.sizeOf o
decreasing_by exact sizeOf_get h
end Go.Gp.Tryd
