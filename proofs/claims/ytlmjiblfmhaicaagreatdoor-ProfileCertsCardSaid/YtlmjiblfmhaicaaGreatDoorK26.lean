/- Part of a proof: GhQ10, GhQ11, GhQ12, GhQ13, GhQ14, GhQ15 -/
import Derived.Test.YtlmjiblfmhaicaaGreatDoorK25

set_option linter.unusedSectionVars false

/- The reference of addresses: from bits to the address. -/
namespace Go.Gp.Tryz
variable [Inhabited MaxLenT]
open Go.Proofs
set_option linter.unusedVariables false
set_option linter.unusedSimpArgs false
set_option linter.unusedSectionVars false
set_option maxHeartbeats 4000000

def bval (l : List Nat) : Nat := l.foldl (fun v b => 2 * v + b) 0
theorem bval_snoc (l : List Nat) (b : Nat) : bval (l ++ [b]) = 2 * bval l + b := by rw [bval, List.foldl_append]; rfl
def isBits (l : List Nat) : Prop := ∀ b ∈ l, b < 2
theorem bval_gen : ∀ (l : List Nat) (v n : Nat), (∀ b ∈ l, b < 2) → v < 2 ^ n → l.foldl (fun v b => 2 * v + b) v < 2 ^ (n + l.length)
  | [], v, n, _, h => h
  | b :: l, v, n, hb, h => by
    have h1 := hb b List.mem_cons_self
    have := bval_gen l (2 * v + b) (n + 1) (fun x hx => hb x (List.mem_cons_of_mem _ hx)) (by rw [Nat.pow_succ]; omega)
    rw [List.foldl_cons, List.length_cons, show n + (l.length + 1) = n + 1 + l.length by omega]
    exact this
theorem bval_lt (l : List Nat) (h : isBits l) : bval l < 2 ^ l.length := by
  have := bval_gen l 0 0 h (by decide)
  rwa [Nat.zero_add] at this
theorem bval_128 {l : List Nat} (h : isBits l) (hl : l.length ≤ 128) : bval l < 340282366920938463463374607431768211456 := by
  have h1 := bval_lt l h
  have h2 : 2 ^ l.length ≤ 2 ^ 128 := Nat.pow_le_pow_right (by decide) hl
  have h3 : 2 ^ 128 = 340282366920938463463374607431768211456 := by rfl
  omega
theorem wrapu_mod (x : Nat) : IntKind.u64.wrap (x : Int) = ((x % 18446744073709551616 : Nat) : Int) := by
  simp only [IntKind.wrap, IntKind.bits, IntKind.signed]
  simp
theorem step_hi {v b m : Nat} (hm : m + 1 = 9223372036854775808) (hv : 2 * v + b < 340282366920938463463374607431768211456) (hb : b < 2) :
    IntKind.u64.wrap (IntKind.u64.wrap (((v / 18446744073709551616 : Nat) : Int) + ((v / 18446744073709551616 : Nat) : Int)) + IntKind.u64.wrap ((((v % 18446744073709551616 : Nat) : Int)).tdiv ((m : Int) + 1))) = (((2 * v + b) / 18446744073709551616 : Nat) : Int) := by
  have e1 : (((v % 18446744073709551616 : Nat) : Int)).tdiv ((m : Int) + 1) = ((v % 18446744073709551616 / (m + 1) : Nat) : Int) := by
    rw [show ((m : Int) + 1) = ((m + 1 : Nat) : Int) by omega]
    exact (Int.ofNat_tdiv _ (m + 1)).symm
  rw [e1, hm, ← Int.natCast_add, wrapu_mod, wrapu_mod, ← Int.natCast_add, wrapu_mod]
  congr 1
  omega
theorem step_lo {v b : Nat} (hb : b < 2) :
    IntKind.u64.wrap (IntKind.u64.wrap (((v % 18446744073709551616 : Nat) : Int) + ((v % 18446744073709551616 : Nat) : Int)) + IntKind.u64.wrap ((b : Nat) : Int)) = (((2 * v + b) % 18446744073709551616 : Nat) : Int) := by
  rw [← Int.natCast_add, wrapu_mod, wrapu_mod, ← Int.natCast_add, wrapu_mod]
  congr 1
  try omega
theorem addr_A (l : List Nat) (hb : isBits l) (hl : l.length ≤ 128) (m r : Nat) (H : List AObj) (hH : H[m + r]? = some (.cells (bitCells l))) :
    CallsA E 88 [.ov m r 0 1 l.length] H (Is H (.agg (ofVal (bval l)).cells)) := by
  have hP := fun X => power_A 63 X (by decide)
  obtain ⟨p, hp⟩ : ∃ p, p + 1 = 9223372036854775808 := ⟨9223372036854775807, rfl⟩
  have hp2 : 2 ^ 63 = p + 1 := by rw [hp]
  rw [hp2] at hP
  refine .enter Tryz.func88 rfl rfl rfl 35 Tryz.ntmps88 (Nat.le_of_ble_eq_true rfl) ?_
  repeat' first
    | refine WpA.seq ?_
    | refine WpA.region ?_
    | refine WpOps.op _ rfl rfl rfl rfl rfl ?_
    | refine WpOps.alloc _ rfl rfl rfl rfl rfl rfl ?_
    | refine WpA.block ?_
    | refine WpOps.nil ?_
  refine WpA.loopS (α := Nat) (fun i => [(0, .ov m r 0 1 l.length), (2, .ptr H.length 0 0), (3, .ptr H.length 1 0), (4, .int .i64 (i : Nat))])
    (fun i => H ++ [.cells [.int .u64 0, .int .u64 0], .cells [.int .u64 ((bval (l.take i) / 18446744073709551616 : Nat) : Int), .int .u64 ((bval (l.take i) % 18446744073709551616 : Nat) : Int)]]) (fun i => i ≤ l.length) (fun i => l.length - i) 0 (Nat.zero_le _) ⟨rfl, rfl, rfl, rfl, trivial⟩ (by rw [List.take_zero]; rfl) (fun i hi => ?_)
  by_cases hlt : i < l.length
  · have hd : decide (((i : Nat) : Int) < ((l.length : Nat) : Int)) = true := decide_eq_true (by omega)
    have hd' : ((i : Nat) : Int) < ((l.length : Nat) : Int) := by omega
    obtain ⟨v, hv⟩ : ∃ v, bval (l.take i) = v := ⟨_, rfl⟩
    obtain ⟨b, hbb⟩ : ∃ b, l[i] = b := ⟨_, rfl⟩
    have hb2 : b < 2 := by rw [← hbb]; exact hb _ (List.getElem_mem hlt)
    have hnext : bval (l.take (i + 1)) = 2 * v + b := by rw [List.take_succ_eq_append_getElem hlt, bval_snoc, hv, hbb]
    have h128 : 2 * v + b < 340282366920938463463374607431768211456 := by
      rw [← hnext]
      exact bval_128 (fun x hx => hb x (List.mem_of_mem_take hx)) (by rw [List.length_take]; omega)
    have hhi := step_hi hp h128 hb2
    have hlo := step_lo (v := v) hb2
    have hcell : (bitCells l).drop i = .int .i64 ((b : Nat) : Int) :: (bitCells l).drop (i + 1) := by
      have hil : i < (bitCells l).length := by rw [bitCells, List.length_map]; exact hlt
      rw [List.drop_eq_getElem_cons hil]
      simp [bitCells, hbb]
    have hcl : (bitCells l).length = l.length := List.length_map _
    rw [hv]
    clear h128 hp hp2
    obtain ⟨h, hh⟩ : ∃ h, v / 18446744073709551616 = h := ⟨_, rfl⟩
    obtain ⟨o, ho⟩ : ∃ o, v % 18446744073709551616 = o := ⟨_, rfl⟩
    obtain ⟨h', hh'⟩ : ∃ h', (2 * v + b) / 18446744073709551616 = h' := ⟨_, rfl⟩
    obtain ⟨o', ho'⟩ : ∃ o', (2 * v + b) % 18446744073709551616 = o' := ⟨_, rfl⟩
    rw [hh, ho, hh'] at hhi
    rw [ho, ho'] at hlo
    rw [hh, ho]
    refine WpA.cutS [(0, .ov m r 0 1 l.length), (2, .ptr H.length 0 0), (3, .ptr H.length 1 0), (4, .int .i64 (i : Nat))] (H ++ [.cells [.int .u64 0, .int .u64 0], .cells [.int .u64 (h : Int), .int .u64 (o : Int)]]) (by
      repeat' first
        | refine WpA.condT (congrArg AV.bool hd) ?_
        | (refine WpOps.p1 rfl rfl rfl (.lenV rfl rfl rfl) ?_)
        | refine WpA.seq ?_
        | refine WpA.region ?_
        | refine WpOps.op _ rfl rfl rfl rfl rfl ?_
        | refine WpOps.nil ?_
        | refine WpA.skip ?_
      exact ⟨rfl, ⟨rfl, rfl, rfl, rfl, trivial⟩, rfl⟩) ?_
    refine WpA.seq ?_
    refine WpA.block ?_
    refine WpA.cutS [(0, .ov m r 0 1 l.length), (2, .ptr H.length 0 0), (3, .ptr H.length 1 0), (4, .int .i64 (i : Nat))] (H ++ [.cells [.int .u64 0, .int .u64 0], .cells [.int .u64 (h' : Int), .int .u64 (o : Int)]]) (by
      rw [← hhi]
      repeat' first
        | refine WpA.drawI (id := 5) [H.length + 1] [0, 4, 0, 4, 0, 0, 4, 0, 0, 0, 0, 2] (by kernel_rfl) (by kernel_rfl) ?_
        | (refine LexH.p0 rfl rfl rfl rfl (fun H0 => .quo rfl rfl) ?_)
        | refine LexH.op0 _ rfl rfl rfl rfl rfl (fun _ => rfl) ?_
        | refine LexH.load4 _ rfl rfl rfl rfl rfl rfl (by simp) rfl rfl rfl rfl ?_
        | refine LexH.store rfl rfl rfl rfl rfl rfl rfl rfl rfl rfl rfl ?_
        | refine LexH.call0 rfl rfl rfl rfl rfl rfl (fun _ => by exact hP _) ?_
        | refine LexH.nil ?_
      exact ⟨rfl, ⟨rfl, rfl, rfl, rfl, trivial⟩, rfl⟩) ?_
    repeat' first
      | refine WpA.drawI (id := 6) [H.length + 1, m + r] [0, 4, 0, 4, 0, 0, 0, 0, 4, 0, 0, 0, 2] (by kernel_rfl) (by kernel_rfl) ?_
      | (refine LexH.p0 rfl rfl rfl rfl (fun H0 => .elemV rfl rfl rfl rfl rfl (Int.natCast_nonneg i) hd') ?_)
      | (refine LexH.p4 rfl rfl rfl rfl (fun H0 h0 => .loadAt (av := .int .i64 ((b : Nat) : Int)) rfl rfl (h0 _ (by simp) _ (by rw [List.getElem?_append_left (get_lt hH)]; exact hH)) rfl (by show Nat.ble (0 + i * 1 + 1) _ = true; exact Nat.ble_eq_true_of_le (by rw [hcl]; omega)) (by show varA _ (List.drop (0 + i * 1) _) = _; rw [Nat.zero_add, Nat.mul_one, hcell]; rfl)) ?_)
      | refine WpA.region ?_
      | refine WpOps.op _ rfl rfl rfl rfl rfl ?_
      | refine WpOps.nil ?_
      | refine LexH.op0 _ rfl rfl rfl rfl rfl (fun _ => rfl) ?_
      | refine LexH.load4 _ rfl rfl rfl rfl rfl rfl (by simp) rfl rfl rfl rfl ?_
      | refine LexH.store rfl rfl rfl rfl rfl rfl rfl rfl rfl rfl rfl ?_
      | refine LexH.nil ?_
    exact ⟨i + 1, hlt, by omega, ⟨rfl, rfl, rfl, congrArg (AV.int .i64) (wrap64 (by omega) (by omega)), trivial⟩, by rw [hnext, hh', ho', ← hlo]; rfl⟩
  · have : i = l.length := by omega
    subst this
    have hd : decide (((l.length : Nat) : Int) < ((l.length : Nat) : Int)) = false := decide_eq_false (by omega)
    rw [List.take_length]
    have hbd : ∀ n, Bd n (.agg (ofVal (bval l)).cells) := fun n => .agg fun y hy => by
      simp only [Ad.cells, List.mem_cons, List.not_mem_nil, or_false] at hy
      rcases hy with rfl | rfl <;> exact .int
    show WpA E none 35 _ _ _ (H ++ [.cells [.int .u64 0, .int .u64 0], .cells [.int .u64 ((ofVal (bval l)).hi : Int), .int .u64 ((ofVal (bval l)).lo : Int)]])
    generalize ofVal (bval l) = z at *
    repeat' first
      | refine WpA.condF (congrArg AV.bool hd) ?_
      | (refine WpOps.p1 rfl rfl rfl (.lenV rfl rfl rfl) ?_)
      | refine WpA.seq ?_
      | refine WpA.region ?_
      | refine WpOps.op _ rfl rfl rfl rfl rfl ?_
      | refine WpOps.store rfl rfl rfl rfl rfl rfl rfl rfl rfl rfl ?_
      | refine WpA.exit ?_
      | refine WpOps.nil ?_
      | refine WpA.ret ?_
    exact retK.ok («as» := [.agg [.int .u64 (z.hi : Int), .int .u64 (z.lo : Int)]]) rfl rfl rfl (hbd _)
end Go.Gp.Tryz

/- The reference of spans: the next address. -/
namespace Go.Gp.Tryz
variable [Inhabited MaxLenT]
open Go.Proofs
set_option linter.unusedVariables false
set_option linter.unusedSimpArgs false
set_option linter.unusedSectionVars false
set_option maxHeartbeats 4000000

theorem bitK_lt (a : Ad) (k : Nat) : bitK a k < 2 := by
  unfold bitK; split <;> exact Nat.mod_lt _ (by decide)
theorem bitsL_bits (a : Ad) (w : Nat) : isBits (bitsL a w) := fun b hb => by
  obtain ⟨i, _, rfl⟩ := List.mem_map.1 hb
  exact bitK_lt a _
theorem bval_fold : ∀ (l : List Nat) (v : Nat), l.foldl (fun v b => 2 * v + b) v = v * 2 ^ l.length + l.foldl (fun v b => 2 * v + b) 0
  | [], v => by simp
  | c :: l, v => by
    have h1 := bval_fold l (2 * v + c)
    have h2 := bval_fold l (2 * 0 + c)
    show l.foldl (fun v b => 2 * v + b) (2 * v + c) = v * 2 ^ (l.length + 1) + l.foldl (fun v b => 2 * v + b) (2 * 0 + c)
    rw [h1, h2, Nat.pow_succ]
    generalize 2 ^ l.length = p
    generalize l.foldl (fun v b => 2 * v + b) 0 = s
    have e1 : (2 * v + c) * p = v * (p * 2) + c * p := by rw [Nat.add_mul, Nat.mul_comm 2 v, Nat.mul_assoc, Nat.mul_comm 2 p]
    have e2 : (2 * 0 + c) * p = c * p := by simp
    omega
theorem bval_cons (b : Nat) (l : List Nat) : bval (b :: l) = b * 2 ^ l.length + bval l := by
  have := bval_fold l (2 * 0 + b)
  rw [show 2 * 0 + b = b by omega] at this
  rw [bval, List.foldl_cons, show 2 * 0 + b = b by omega, this]; rfl
def natBits (x w : Nat) : List Nat := (List.range w).map fun i => x / 2 ^ (w - 1 - i) % 2
theorem bval_nat (x : Nat) : ∀ w, bval (natBits x w) = x % 2 ^ w
  | 0 => by simp [natBits, bval, Nat.mod_one]
  | w + 1 => by
    have ih := bval_nat x w
    have e : natBits x (w + 1) = (x / 2 ^ w % 2) :: natBits x w := by
      rw [natBits, List.range_succ_eq_map, List.map_cons, List.map_map]
      congr 1
      refine List.map_congr_left fun i _ => ?_
      show x / 2 ^ (w + 1 - 1 - (i + 1)) % 2 = x / 2 ^ (w - 1 - i) % 2
      rw [show w + 1 - 1 - (i + 1) = w - 1 - i by omega]
    have hl : (natBits x w).length = w := by simp [natBits]
    rw [e, bval_cons, ih, hl, Nat.mod_pow_succ, Nat.mul_comm, Nat.add_comm]
theorem bitK_val {a : Ad} (ha : a.ok) (k : Nat) : bitK a k = a.val / 2 ^ k % 2 := by
  obtain ⟨h1, h2⟩ := ha
  unfold bitK Ad.val
  split
  · rename_i h
    have e : 2 ^ k = 18446744073709551616 * 2 ^ (k - 64) := by
      rw [show (18446744073709551616 : Nat) = 2 ^ 64 by rfl, ← Nat.pow_add]; congr 1; omega
    have e2 : (a.hi * 18446744073709551616 + a.lo) / 18446744073709551616 = a.hi := by omega
    rw [e, ← Nat.div_div_eq_div_mul, e2]
  · rename_i h
    have e : (18446744073709551616 : Nat) = 2 ^ k * (2 * 2 ^ (63 - k)) := by
      rw [show 2 * 2 ^ (63 - k) = 2 ^ (63 - k + 1) by rw [Nat.pow_succ, Nat.mul_comm], ← Nat.pow_add, show k + (63 - k + 1) = 64 by omega]
    have hp : 0 < 2 ^ k := Nat.two_pow_pos k
    have e3 : a.hi * 18446744073709551616 + a.lo = a.lo + 2 ^ k * (2 * (a.hi * 2 ^ (63 - k))) := by
      rw [e, Nat.mul_left_comm a.hi (2 ^ k), Nat.mul_left_comm a.hi 2, Nat.add_comm]
    rw [e3, Nat.add_mul_div_left _ _ hp, Nat.add_mul_mod_self_left]
theorem bval_bits (a : Ad) (ha : a.ok) (w : Nat) (hw : w = 128 ∨ (w = 32 ∧ a.val < 4294967296)) : bval (bitsL a w) = a.val := by
  have e : bitsL a w = natBits a.val w := List.map_congr_left fun i _ => bitK_val ha _
  rw [e, bval_nat]
  have hv := val_lt ha
  refine Nat.mod_eq_of_lt ?_
  rcases hw with rfl | ⟨rfl, h⟩
  · rw [show (2 : Nat) ^ 128 = 340282366920938463463374607431768211456 by rfl]; exact hv
  · rw [show (2 : Nat) ^ 32 = 4294967296 by rfl]; exact h
end Go.Gp.Tryz

/- The reference of spans: the next address, the walk. -/
namespace Go.Gp.Tryz
variable [Inhabited MaxLenT]
open Go.Proofs
set_option linter.unusedVariables false
set_option linter.unusedSimpArgs false
set_option linter.unusedSectionVars false
set_option maxHeartbeats 4000000

theorem bval_app (x y : List Nat) : bval (x ++ y) = bval x * 2 ^ y.length + bval y := by
  rw [bval, List.foldl_append, bval_fold]; rfl
theorem bval_rep0 (k : Nat) : bval (List.replicate k 0) = 0 := by
  induction k with
  | zero => rfl
  | succ k ih => rw [List.replicate_succ, bval_cons, ih]; simp
theorem bval_rep1 (k : Nat) : bval (List.replicate k 1) + 1 = 2 ^ k := by
  induction k with
  | zero => rfl
  | succ k ih => rw [List.replicate_succ, bval_cons, List.length_replicate, Nat.pow_succ]; omega
def cur (l : List Nat) (n : Nat) : List Nat := l.take n ++ List.replicate (l.length - n) 0
theorem cur_len {l : List Nat} {n : Nat} (h : n ≤ l.length) : (cur l n).length = l.length := by
  rw [cur, List.length_append, List.length_take, List.length_replicate]; omega
theorem cur_get {l : List Nat} {k : Nat} (h : k < l.length) : (bitCells (cur l (k + 1))).drop k = .int .i64 ((l[k] : Nat) : Int) :: (bitCells (cur l (k + 1))).drop (k + 1) := by
  have h1 : k < (bitCells (cur l (k + 1))).length := by rw [bitCells, List.length_map, cur_len (by omega)]; exact h
  rw [List.drop_eq_getElem_cons h1]
  congr 1
  simp only [bitCells, List.getElem_map, cur]
  rw [List.getElem_append_left (by rw [List.length_take]; omega), List.getElem_take]
theorem cur_put {l : List Nat} {k b : Nat} (h : k < l.length) : putA (bitCells (cur l (k + 1))) k [.int .i64 (b : Int)] = bitCells (l.take k ++ b :: List.replicate (l.length - (k + 1)) 0) := by
  rw [putA, cur, List.take_succ_eq_append_getElem h, List.append_assoc, bitCells, bitCells, List.map_append, List.map_append]
  have hl : (List.map (fun b : Nat => AV.int .i64 (b : Int)) (l.take k)).length = k := by rw [List.length_map, List.length_take]; omega
  rw [List.set_append_right _ _ (by omega), hl, Nat.sub_self]
  simp
theorem cur_zero {l : List Nat} {k : Nat} (h : k < l.length) : bitCells (l.take k ++ 0 :: List.replicate (l.length - (k + 1)) 0) = bitCells (cur l k) := by
  rw [cur, show l.length - k = l.length - (k + 1) + 1 by omega, List.replicate_succ]
def onesFrom (l : List Nat) (n : Nat) : Prop := l.drop n = List.replicate (l.length - n) 1
theorem ones_step {l : List Nat} {k : Nat} (h : k < l.length) (ho : onesFrom l (k + 1)) (h1 : l[k] = 1) : onesFrom l k := by
  rw [onesFrom, List.drop_eq_getElem_cons h, ho, h1, show l.length - k = l.length - (k + 1) + 1 by omega, List.replicate_succ]
theorem val_found {l : List Nat} {k : Nat} (h : k < l.length) (ho : onesFrom l (k + 1)) (h0 : l[k] = 0) : bval (l.take k ++ 1 :: List.replicate (l.length - (k + 1)) 0) = bval l + 1 := by
  have e : l = l.take k ++ (0 :: List.replicate (l.length - (k + 1)) 1) := by
    have := (List.take_append_drop k l).symm
    rw [List.drop_eq_getElem_cons h, ho, h0] at this
    exact this
  have h1 := bval_rep1 (l.length - (k + 1))
  have h2 : bval l = bval (l.take k ++ (0 :: List.replicate (l.length - (k + 1)) 1)) := congrArg bval e
  rw [h2, bval_app, bval_app, bval_cons, bval_cons, bval_rep0, List.length_cons, List.length_cons, List.length_replicate, List.length_replicate]
  omega
theorem val_none {l : List Nat} (ho : onesFrom l 0) : bval l + 1 = 2 ^ l.length := by
  have : l = List.replicate l.length 1 := by have := ho; rw [onesFrom] at this; simpa using this
  have h1 := bval_rep1 l.length
  rw [← this] at h1
  exact h1
def refNextAV (w : Nat) (a : Ad) : AV := if a.val + 1 < 2 ^ w then .tup [.agg (ofVal (a.val + 1)).cells, .bool true] else .tup [.agg [.int .u64 0, .int .u64 0], .bool false]
theorem refNext_A (fam : Int) (w : Nat) (hw : wid fam = (w : Nat)) (hw2 : w = 128 ∨ w = 32) (a : Ad) (ha : a.ok) (hck : okAd fam a = true) (hv : bval (bitsL a w) = a.val) (H : List AObj) : CallsA E 65 [.int .u8 fam, .agg a.cells] H (Is H (refNextAV w a)) := by
  have hC := fun X => refCheckAddr_A fam a X
  rw [hck] at hC
  have hB := fun X m0 q0 h => bits_A fam w hw (by omega) a ha X m0 q0 h
  have hlb := bitsL_bits a w
  have hll := bitsL_len a w
  have hr1 : bval (bitsL a w) + 1 < 2 ^ w → refNextAV w a = .tup [.agg (ofVal (bval (bitsL a w) + 1)).cells, .bool true] := fun h => by rw [refNextAV, ← hv, if_pos h]
  have hr2 : ¬ bval (bitsL a w) + 1 < 2 ^ w → refNextAV w a = .tup [.agg [.int .u64 0, .int .u64 0], .bool false] := fun h => by rw [refNextAV, ← hv, if_neg h]
  generalize refNextAV w a = R at *
  clear hv hck
  obtain ⟨ah, al⟩ := a
  generalize bitsL ⟨ah, al⟩ w = l at *
  subst hll
  refine .enter Tryz.func65 rfl rfl rfl 37 Tryz.ntmps65 (Nat.le_of_ble_eq_true rfl) ?_
  repeat' first
    | (refine WpOps.call rfl rfl rfl rfl rfl (by exact hB _ H.length 2 (by simp)) ?_; rintro _ _ ⟨J, r, rfl, hJ, rfl⟩; rw [List.append_assoc])
    | (refine WpOps.p1 rfl rfl rfl (.lenV rfl rfl rfl) ?_)
    | refine WpA.seq ?_
    | refine WpA.region ?_
    | refine WpOps.op _ rfl rfl rfl rfl rfl ?_
    | refine WpOps.box _ rfl rfl rfl rfl rfl ?_
    | refine WpOps.alloc _ rfl rfl rfl rfl rfl rfl ?_
    | (refine WpOps.call rfl rfl rfl rfl rfl (by exact hC _) ?_; rintro _ _ ⟨rfl, rfl⟩)
    | refine WpA.block ?_
    | refine WpOps.nil ?_
    | refine WpA.skip ?_
    | refine WpA.condF rfl ?_
  have hl128 : l.length ≤ 128 := by omega
  have hrJ := get_lt hJ
  refine WpA.loopS (α := Nat) (fun n => [(4, .ptr H.length 1 0), (6, .ov H.length (r + 2) 0 1 l.length), (7, .int .i64 ((n : Int) - 1))])
    (fun n => H ++ (.cells [.int .u64 (ah : Int), .int .u64 (al : Int)] :: .cells [.int .u64 0, .int .u64 0] :: J.set r (.cells (bitCells (cur l n))))) (fun n => n ≤ l.length ∧ onesFrom l n) (fun n => n) l.length ⟨Nat.le_refl _, by simp [onesFrom]⟩ ⟨rfl, rfl, congrArg (AV.int .i64) (wrap64 (by omega) (by omega)), trivial⟩ (by rw [show cur l l.length = l by simp [cur], set_self hJ]; rfl) (fun n hn => ?_)
  obtain ⟨hn1, hn2⟩ := hn
  cases n with
  | zero =>
    have hno := val_none hn2
    rw [hr2 (by omega)]
    clear hr1 hr2
    repeat' first
      | refine WpA.seq ?_
      | refine WpA.region ?_
      | refine WpOps.op _ rfl rfl rfl rfl rfl ?_
      | refine WpOps.store rfl rfl rfl rfl rfl rfl rfl rfl rfl rfl ?_
      | refine WpOps.build _ rfl rfl rfl rfl rfl ?_
      | refine WpA.exit ?_
      | refine WpOps.nil ?_
      | refine WpA.ret ?_
      | refine WpA.condF rfl ?_
    exact retK.ok («as» := [.agg [.int .u64 0, .int .u64 0], .bool false]) rfl rfl rfl (ad_bd ⟨0, 0⟩ _)
  | succ k =>
    have hk : k < l.length := by omega
    rw [show (((k + 1 : Nat)) : Int) - 1 = ((k : Nat) : Int) by omega]
    have hkl : ((k : Nat) : Int) < ((l.length : Nat) : Int) := by omega
    have hd : decide (((k : Nat) : Int) ≥ 0) = true := decide_eq_true (Int.natCast_nonneg k)
    have hX : (H ++ (.cells [.int .u64 (ah : Int), .int .u64 (al : Int)] :: .cells [.int .u64 0, .int .u64 0] :: J.set r (.cells (bitCells (cur l (k + 1))))))[H.length + (r + 2)]? = some (.cells (bitCells (cur l (k + 1)))) := app_get rfl (by show (J.set r _)[r]? = _; rw [List.getElem?_set_self hrJ])
    have hcl : (bitCells (cur l (k + 1))).length = l.length := by rw [bitCells, List.length_map, cur_len hn1]
    have hget := cur_get hk
    have hle : Nat.ble (0 + k * 1 + 1) (bitCells (cur l (k + 1))).length = true := Nat.ble_eq_true_of_le (by rw [hcl]; omega)
    have hput : ∀ b : Nat, (H ++ (.cells [.int .u64 (ah : Int), .int .u64 (al : Int)] :: .cells [.int .u64 0, .int .u64 0] :: J.set r (.cells (bitCells (cur l (k + 1)))))).set (H.length + (r + 2)) (.cells (putA (bitCells (cur l (k + 1))) (0 + k * 1) [.int .i64 ((b : Nat) : Int)])) = H ++ (.cells [.int .u64 (ah : Int), .int .u64 (al : Int)] :: .cells [.int .u64 0, .int .u64 0] :: J.set r (.cells (bitCells (l.take k ++ b :: List.replicate (l.length - (k + 1)) 0)))) := fun b => by
      rw [set_app]
      show H ++ (_ :: _ :: (J.set r _).set r (.cells (putA _ (0 + k * 1) _))) = _
      rw [List.set_set, Nat.zero_add, Nat.mul_one, cur_put hk]
    have hb2 := hlb _ (List.getElem_mem hk)
    by_cases h0 : l[k] = 0
    · have hvf := val_found hk hn2 h0
      obtain ⟨l', hl'⟩ : ∃ l', l' = l.take k ++ 1 :: List.replicate (l.length - (k + 1)) 0 := ⟨_, rfl⟩
      have hl'l : l'.length = l.length := by rw [hl', List.length_append, List.length_take, List.length_cons, List.length_replicate]; omega
      have hl'b : isBits l' := fun x hx => by
        rw [hl'] at hx
        rcases List.mem_append.1 hx with h | h
        · exact hlb x (List.mem_of_mem_take h)
        · rcases List.mem_cons.1 h with rfl | h
          · decide
          · rw [List.eq_of_mem_replicate h]; decide
      have hAd : CallsA E 88 [.ov H.length (r + 2) 0 1 l.length] (H ++ (.cells [.int .u64 (ah : Int), .int .u64 (al : Int)] :: .cells [.int .u64 0, .int .u64 0] :: J.set r (.cells (bitCells l')))) (Is (H ++ (.cells [.int .u64 (ah : Int), .int .u64 (al : Int)] :: .cells [.int .u64 0, .int .u64 0] :: J.set r (.cells (bitCells l')))) (.agg (ofVal (bval l + 1)).cells)) := by
        have := addr_A l' hl'b (by omega) H.length (r + 2) _ (app_get (H := H) (L := .cells [.int .u64 (ah : Int), .int .u64 (al : Int)] :: .cells [.int .u64 0, .int .u64 0] :: J.set r (.cells (bitCells l'))) (j := r + 2) rfl (by show (J.set r _)[r]? = _; rw [List.getElem?_set_self hrJ]))
        rw [hl', hvf, ← hl', hl'l] at this
        exact this
      have hlt := bval_lt l' hl'b
      rw [hl', hvf, ← hl', hl'l] at hlt
      rw [hr1 hlt]
      have hp1 := hput 1
      rw [← hl'] at hp1
      clear hr1 hr2 hvf hlt hput
      generalize ofVal (bval l + 1) = z at *
      rw [h0] at hget
      repeat' first
        | refine WpA.condT (congrArg AV.bool hd) ?_
        | (refine WpOps.p1 rfl rfl rfl (.elemV rfl rfl rfl rfl rfl (Int.natCast_nonneg k) hkl) ?_)
        | (refine WpOps.p1 rfl rfl rfl (.loadAt (av := .int .i64 ((0 : Nat) : Int)) rfl rfl hX rfl (by exact hle) (by show varA _ (List.drop (0 + k * 1) _) = _; rw [Nat.zero_add, Nat.mul_one, hget]; rfl)) ?_)
        | (refine WpOps.u1h _ rfl rfl (.storeAt rfl rfl hX rfl rfl rfl rfl (by exact hle)) (by exact hp1) ?_)
        | refine WpA.seq ?_
        | refine WpA.region ?_
        | refine WpOps.op _ rfl rfl rfl rfl rfl ?_
        | refine WpOps.store rfl rfl rfl rfl rfl rfl rfl rfl rfl rfl ?_
        | (refine WpOps.call rfl rfl rfl rfl rfl (by exact hAd) ?_; rintro _ _ ⟨rfl, rfl⟩)
        | refine WpA.block ?_
        | refine WpOps.nil ?_
        | refine WpA.ret ?_
        | refine WpA.skip ?_
      exact retK.ok («as» := [.agg [.int .u64 (z.hi : Int), .int .u64 (z.lo : Int)], .bool true]) rfl rfl rfl (ad_bd z _)
    · have h1 : l[k] = 1 := by omega
      have hp0 := hput 0
      rw [cur_zero hk] at hp0
      rw [h1] at hget
      clear hr1 hr2 hput
      repeat' first
        | refine WpA.condT (congrArg AV.bool hd) ?_
        | (refine WpOps.p1 rfl rfl rfl (.elemV rfl rfl rfl rfl rfl (Int.natCast_nonneg k) hkl) ?_)
        | (refine WpOps.p1 rfl rfl rfl (.loadAt (av := .int .i64 ((1 : Nat) : Int)) rfl rfl hX rfl (by exact hle) (by show varA _ (List.drop (0 + k * 1) _) = _; rw [Nat.zero_add, Nat.mul_one, hget]; rfl)) ?_)
        | (refine WpOps.u1h _ rfl rfl (.storeAt rfl rfl hX rfl rfl rfl rfl (by exact hle)) (by exact hp0) ?_)
        | refine WpA.seq ?_
        | refine WpA.region ?_
        | refine WpOps.op _ rfl rfl rfl rfl rfl ?_
        | refine WpA.block ?_
        | refine WpOps.nil ?_
        | refine WpA.skip ?_
        | refine WpA.condF rfl ?_
      exact ⟨k, ⟨by omega, ones_step hk hn2 h1⟩, Nat.lt_succ_self k, ⟨rfl, rfl, congrArg (AV.int .i64) (wrap64 (by omega) (by omega)), trivial⟩, rfl⟩
end Go.Gp.Tryz

/- The reference of resources: Valid. -/
namespace Go.Gp.Tryz
variable [Inhabited MaxLenT]
open Go.Proofs
set_option linter.unusedVariables false
set_option linter.unusedSimpArgs false
set_option linter.unusedSectionVars false
set_option maxHeartbeats 4000000

def selR (r : Res) : Nat → List Sp
  | 0 => r.v4
  | 1 => r.v6
  | _ => r.asw
def rows3 (r : Res) : List (List AV) := [[.sl .no 4 (spRows (selR r 0))], [.sl .no 4 (spRows (selR r 1))], [.sl .no 4 (spRows (selR r 2))]]
def fams3 : List (List AV) := [[.int .u8 4], [.int .u8 6], [.int .u8 4]]
theorem rows3_get {r : Res} {k : Nat} (hk : k < 3) : (rows3 r)[((k : Nat) : Int).toNat]? = some [.sl .no 4 (spRows (selR r k))] := by
  match k, hk with
  | 0, _ => rfl
  | 1, _ => rfl
  | 2, _ => rfl
theorem fams3_get {k : Nat} (hk : k < 3) : fams3[((k : Nat) : Int).toNat]? = some [.int .u8 (famK k)] := by
  match k, hk with
  | 0, _ => rfl
  | 1, _ => rfl
  | 2, _ => rfl
theorem sel_small {r : Res} (hs : r.small) (k : Nat) : (selR r k).length ≤ 1000 := by
  obtain ⟨h1, h2, h3⟩ := hs
  unfold selR
  split
  · exact h1
  · exact h2
  · rw [Res.asw, List.length_map]; exact h3
theorem sel_ok {r : Res} (ho : r.ok) (k : Nat) : ∀ s ∈ selR r k, s.ok := by
  unfold selR
  split
  · exact ho.1
  · exact ho.2.1
  · exact asw_ok ho
theorem goodL_false {fam : Int} {l : List Sp} {s : Sp} (hs : s ∈ l) (h : okSp fam s = false) : goodL fam l = false := by
  rw [goodL, List.any_eq_true.2 ⟨s, hs, by rw [h]; rfl⟩]; rfl
theorem goodL_true {fam : Int} {l : List Sp} (h : ∀ s ∈ l, okSp fam s = true) : goodL fam l = true := by
  rw [goodL, List.any_eq_false.2 (fun s hs => by rw [h s hs]; simp)]; rfl
theorem checkedE_many {r : Res} {k : Nat} (h : 200 < (selR r k).length) : checkedE r = 4 := by
  rw [checkedE, if_pos]
  match k with
  | 0 => exact .inl h
  | 1 => exact .inr (.inl h)
  | n + 2 =>
    have h' : 200 < r.asw.length := h
    rw [Res.asw, List.length_map] at h'
    exact .inr (.inr h')
theorem checkedE_bad {r : Res} {k : Nat} (hk : k < 3) (hn : ∀ j, j < 3 → (selR r j).length ≤ 200) (h : goodL (famK k) (selR r k) = false) : checkedE r = 8 := by
  have a0 := hn 0 (by decide)
  have a1 := hn 1 (by decide)
  have a2 := hn 2 (by decide)
  simp only [selR, Res.asw, List.length_map] at a0 a1 a2
  rw [checkedE, if_neg (by omega), if_neg]
  match k, hk with
  | 0, _ => (have e : goodL 4 r.v4 = false := h); rw [e]; simp
  | 1, _ => (have e : goodL 6 r.v6 = false := h); rw [e]; simp
  | 2, _ => (have e : goodL 4 r.asw = false := h); rw [e]; simp
theorem checkedE_ok {r : Res} (hn : ∀ j, j < 3 → (selR r j).length ≤ 200) (h : ∀ j, j < 3 → goodL (famK j) (selR r j) = true) : checkedE r = 0 := by
  have a0 := hn 0 (by decide)
  have a1 := hn 1 (by decide)
  have a2 := hn 2 (by decide)
  simp only [selR, Res.asw, List.length_map] at a0 a1 a2
  have b0 : goodL 4 r.v4 = true := h 0 (by decide)
  have b1 : goodL 6 r.v6 = true := h 1 (by decide)
  have b2 : goodL 4 r.asw = true := h 2 (by decide)
  rw [checkedE, if_neg (by omega), b0, b1, b2]; rfl
theorem refValid_A (r : Res) (H : List AObj) (hs : r.small) (ho : r.ok) : CallsA E 64 [.agg r.cells] H (Is H (.int .i64 (checkedE r))) := by
  have hL := fun X => lists_A r X hs ho
  have hL : ∀ X, CallsA E 50 [.agg r.cells] X (Is X (.tup [.sl .no 1 (rows3 r), .sl .no 1 fams3])) := hL
  refine .enter Tryz.func64 rfl rfl rfl 49 Tryz.ntmps64 (Nat.le_of_ble_eq_true rfl) ?_
  obtain ⟨cs, hcs⟩ : ∃ cs, cs = r.cells := ⟨_, rfl⟩
  repeat' first
    | refine WpA.seq ?_
    | refine WpA.region ?_
    | refine WpOps.op _ rfl rfl rfl rfl rfl ?_
    | refine WpOps.box _ rfl rfl rfl rfl rfl ?_
    | (refine WpOps.call rfl rfl rfl rfl rfl (by exact hL _) ?_; rintro _ _ ⟨rfl, rfl⟩)
    | refine WpA.block ?_
    | refine WpOps.nil ?_
  refine WpA.loopS (α := Nat) (fun k => [(3, .sl .no 1 (rows3 r)), (4, .sl .no 1 fams3), (5, .int .i64 (k : Nat))]) (fun _ => H ++ [.cells r.cells]) (fun k => k ≤ 3 ∧ ∀ j, j < k → (selR r j).length ≤ 200) (fun k => 3 - k) 0 ⟨by omega, by omega⟩ ⟨rfl, rfl, rfl, trivial⟩ rfl (fun k hk => ?_)
  obtain ⟨hk1, hk2⟩ := hk
  by_cases hk3 : k < 3
  · have hd : decide (((k : Nat) : Int) < 3) = true := decide_eq_true (by omega)
    have hg := rows3_get (r := r) hk3
    have hsl := spRows_len (selR r k)
    by_cases hm : 200 < (selR r k).length
    · have hd2 : decide (((((spRows (selR r k)).length : Nat) : Int)) > 200) = true := decide_eq_true (by rw [hsl]; omega)
      rw [checkedE_many hm]
      repeat' first
        | refine WpA.condT (congrArg AV.bool hd) ?_
        | refine WpA.condT (congrArg AV.bool hd2) ?_
        | (refine WpOps.elem _ rfl rfl rfl rfl rfl rfl rfl rfl rfl (Int.natCast_nonneg k) hg ?_)
        | refine WpA.seq ?_
        | refine WpA.region ?_
        | refine WpOps.op _ rfl rfl rfl rfl rfl ?_
        | refine WpA.block ?_
        | refine WpOps.nil ?_
        | refine WpA.ret ?_
        | refine WpA.skip ?_
      exact retK.ok rfl rfl rfl .int
    · have hd2 : decide (((((spRows (selR r k)).length : Nat) : Int)) > 200) = false := decide_eq_false (by rw [hsl]; omega)
      repeat' first
        | refine WpA.condT (congrArg AV.bool hd) ?_
        | refine WpA.condF (congrArg AV.bool hd2) ?_
        | (refine WpOps.elem _ rfl rfl rfl rfl rfl rfl rfl rfl rfl (Int.natCast_nonneg k) hg ?_)
        | refine WpA.seq ?_
        | refine WpA.region ?_
        | refine WpOps.op _ rfl rfl rfl rfl rfl ?_
        | refine WpA.block ?_
        | refine WpOps.nil ?_
        | refine WpA.skip ?_
      refine ⟨k + 1, ⟨by omega, fun j hj => ?_⟩, by omega, ⟨rfl, rfl, congrArg (AV.int .i64) (wrap64 (by omega) (by omega)), trivial⟩, rfl⟩
      rcases Nat.lt_or_ge j k with h | h
      · exact hk2 j h
      · have : j = k := by omega
        subst this; omega
  · have hn3 : ∀ j, j < 3 → (selR r j).length ≤ 200 := fun j hj => hk2 j (by omega)
    have hd : decide (((k : Nat) : Int) < 3) = false := decide_eq_false (by omega)
    repeat' first
      | refine WpA.condF (congrArg AV.bool hd) ?_
      | refine WpA.seq ?_
      | refine WpA.region ?_
      | refine WpOps.op _ rfl rfl rfl rfl rfl ?_
      | refine WpA.block ?_
      | refine WpA.exit ?_
      | refine WpOps.nil ?_
    refine WpA.loopS (α := Nat) (fun k => [(3, .sl .no 1 (rows3 r)), (4, .sl .no 1 fams3), (6, .int .i64 (k : Nat))]) (fun _ => H ++ [.cells r.cells]) (fun k => k ≤ 3 ∧ ∀ j, j < k → goodL (famK j) (selR r j) = true) (fun k => 3 - k) 0 ⟨by omega, by omega⟩ ⟨rfl, rfl, rfl, trivial⟩ rfl (fun k hk => ?_)
    obtain ⟨hk1, hk2⟩ := hk
    by_cases hk3 : k < 3
    · have hd : decide (((k : Nat) : Int) < 3) = true := decide_eq_true (by omega)
      have hg := rows3_get (r := r) hk3
      have hf3 := fams3_get hk3
      have hsl := spRows_len (selR r k)
      repeat' first
        | refine WpA.condT (congrArg AV.bool hd) ?_
        | refine WpA.seq ?_
        | refine WpA.region ?_
        | refine WpOps.op _ rfl rfl rfl rfl rfl ?_
        | refine WpA.block ?_
        | refine WpOps.nil ?_
        | refine WpA.skip ?_
      refine WpA.loopS (α := Nat) (fun i => [(3, .sl .no 1 (rows3 r)), (4, .sl .no 1 fams3), (6, .int .i64 (k : Nat)), (7, .int .i64 (i : Nat))]) (fun _ => H ++ [.cells r.cells]) (fun i => i ≤ (selR r k).length ∧ ∀ j (hj : j < i) (h2 : j < (selR r k).length), okSp (famK k) (selR r k)[j] = true) (fun i => (selR r k).length - i) 0 ⟨Nat.zero_le _, by omega⟩ ⟨rfl, rfl, rfl, rfl, trivial⟩ rfl (fun i hi => ?_)
      obtain ⟨hi1, hi2⟩ := hi
      by_cases hlt : i < (selR r k).length
      · have hd2 : decide (((i : Nat) : Int) < (((spRows (selR r k)).length : Nat) : Int)) = true := decide_eq_true (by rw [hsl]; omega)
        have hgi := spRows_get hlt
        have hc := fun X => refSpanCheck_A (famK k) (famK_ok k) (selR r k)[i] X
        obtain ⟨s, hss⟩ : ∃ s, (selR r k)[i] = s := ⟨_, rfl⟩
        rw [hss] at hgi hc
        cases hq : okSp (famK k) s with
        | false =>
          rw [hq, if_neg (by decide)] at hc
          rw [checkedE_bad hk3 hn3 (goodL_false (List.getElem_mem hlt) (by rw [hss]; exact hq))]
          repeat' first
            | refine WpA.condT (congrArg AV.bool hd2) ?_
            | (refine WpOps.elem _ rfl rfl rfl rfl rfl rfl rfl rfl rfl (Int.natCast_nonneg k) hg ?_)
            | (refine LexA.elem _ rfl rfl rfl rfl rfl rfl rfl rfl rfl (Int.natCast_nonneg k) hg ?_)
            | (refine LexA.elem _ rfl rfl rfl rfl rfl rfl rfl rfl rfl (Int.natCast_nonneg k) hf3 ?_)
            | (refine LexA.elem _ rfl rfl rfl rfl rfl rfl rfl rfl rfl (Int.natCast_nonneg i) hgi ?_)
            | refine WpA.seq ?_
            | refine WpA.region ?_
            | refine WpOps.op _ rfl rfl rfl rfl rfl ?_
            | refine WpA.block ?_
            | refine WpOps.nil ?_
            | refine WpA.ret ?_
            | refine WpA.skip ?_
            | refine WpA.condT rfl ?_
            | refine WpA.draw (by kernel_rfl) ?_
            | refine LexA.op _ rfl rfl rfl rfl rfl ?_
            | refine LexA.call rfl rfl rfl rfl rfl (by exact hc _) ?_
            | refine LexA.nil ?_
          exact retK.ok rfl rfl rfl .int
        | true =>
          rw [hq, if_pos rfl] at hc
          repeat' first
            | refine WpA.condT (congrArg AV.bool hd2) ?_
            | (refine WpOps.elem _ rfl rfl rfl rfl rfl rfl rfl rfl rfl (Int.natCast_nonneg k) hg ?_)
            | (refine LexA.elem _ rfl rfl rfl rfl rfl rfl rfl rfl rfl (Int.natCast_nonneg k) hg ?_)
            | (refine LexA.elem _ rfl rfl rfl rfl rfl rfl rfl rfl rfl (Int.natCast_nonneg k) hf3 ?_)
            | (refine LexA.elem _ rfl rfl rfl rfl rfl rfl rfl rfl rfl (Int.natCast_nonneg i) hgi ?_)
            | refine WpA.seq ?_
            | refine WpA.region ?_
            | refine WpOps.op _ rfl rfl rfl rfl rfl ?_
            | refine WpA.block ?_
            | refine WpOps.nil ?_
            | refine WpA.skip ?_
            | refine WpA.condF rfl ?_
            | refine WpA.draw (by kernel_rfl) ?_
            | refine LexA.op _ rfl rfl rfl rfl rfl ?_
            | refine LexA.call rfl rfl rfl rfl rfl (by exact hc _) ?_
            | refine LexA.nil ?_
          refine ⟨i + 1, ⟨hlt, fun j hj h2 => ?_⟩, by omega, ⟨rfl, rfl, rfl, congrArg (AV.int .i64) (wrap64 (by have := sel_small hs k; omega) (by have := sel_small hs k; omega)), trivial⟩, rfl⟩
          rcases Nat.lt_or_ge j i with h | h
          · exact hi2 j h h2
          · have : j = i := by omega
            subst this
            rw [hss]; exact hq
      · have hd2 : decide (((i : Nat) : Int) < (((spRows (selR r k)).length : Nat) : Int)) = false := decide_eq_false (by rw [hsl]; omega)
        have hgood : goodL (famK k) (selR r k) = true := goodL_true fun s hs' => by
          obtain ⟨j, hj, rfl⟩ := List.mem_iff_getElem.1 hs'
          exact hi2 j (by omega) hj
        repeat' first
          | refine WpA.condF (congrArg AV.bool hd2) ?_
          | (refine WpOps.elem _ rfl rfl rfl rfl rfl rfl rfl rfl rfl (Int.natCast_nonneg k) hg ?_)
          | refine WpA.seq ?_
          | refine WpA.region ?_
          | refine WpOps.op _ rfl rfl rfl rfl rfl ?_
          | refine WpA.exit ?_
          | refine WpOps.nil ?_
        refine ⟨k + 1, ⟨by omega, fun j hj => ?_⟩, by omega, ⟨rfl, rfl, congrArg (AV.int .i64) (wrap64 (by omega) (by omega)), trivial⟩, rfl⟩
        rcases Nat.lt_or_ge j k with h | h
        · exact hk2 j h
        · have : j = k := by omega
          subst this; exact hgood
    · have hd : decide (((k : Nat) : Int) < 3) = false := decide_eq_false (by omega)
      rw [checkedE_ok hn3 (fun j hj => hk2 j (by omega))]
      repeat' first
        | refine WpA.condF (congrArg AV.bool hd) ?_
        | refine WpA.seq ?_
        | refine WpA.region ?_
        | refine WpOps.op _ rfl rfl rfl rfl rfl ?_
        | refine WpA.exit ?_
        | refine WpOps.nil ?_
        | refine WpA.ret ?_
      exact retK.ok rfl rfl rfl .int
end Go.Gp.Tryz

/- The reference of resources: Check. -/
namespace Go.Gp.Tryz
variable [Inhabited MaxLenT]
open Go.Proofs
set_option linter.unusedVariables false
set_option linter.unusedSimpArgs false
set_option linter.unusedSectionVars false
set_option maxHeartbeats 4000000

def widK : Nat → Nat
  | 1 => 128
  | _ => 32
theorem wid_fam (k : Nat) : wid (famK k) = ((widK k : Nat) : Int) := by
  match k with
  | 0 => rfl
  | 1 => rfl
  | _ + 2 => rfl
theorem widK_or (k : Nat) : widK k = 128 ∨ widK k = 32 := by unfold widK; split <;> simp
theorem okAd4 {a : Ad} (h : okAd 4 a = true) : a.val < 2 ^ 32 := by
  rw [okAd, okAdI] at h
  have h' : ((a.hi : Int) == 0 && decide ((a.lo : Int) < 4294967296)) = true := h
  rw [Bool.and_eq_true] at h'
  obtain ⟨h1, h2⟩ := h'
  have e1 : (a.hi : Int) = 0 := by simpa using h1
  have e2 := of_decide_eq_true h2
  rw [show (2 : Nat) ^ 32 = 4294967296 by rfl, Ad.val]
  omega
theorem okAd_lt {k : Nat} {a : Ad} (ha : a.ok) (h : okAd (famK k) a = true) : a.val < 2 ^ widK k := by
  have hv := val_lt ha
  match k, h with
  | 0, h => exact okAd4 h
  | 1, _ =>
    show a.val < 2 ^ 128
    rw [show (2 : Nat) ^ 128 = 340282366920938463463374607431768211456 by rfl]; exact hv
  | _ + 2, h => exact okAd4 h
theorem next_pair (k : Nat) (a : Ad) (ha : a.ok) (hck : okAd (famK k) a = true) : ∃ (n : Ad) (is : Bool), (∀ X, CallsA E 65 [.int .u8 (famK k), .agg a.cells] X (Is X (.tup [.agg n.cells, .bool is]))) ∧
    ∀ x : Ad, x.ok → x.val < 2 ^ widK k → (is && !decide (cmpAd n x ≥ 0)) = afterB x a := by
  have hlt := okAd_lt ha hck
  have hbv : bval (bitsL a (widK k)) = a.val := bval_bits a ha _ (by
    rcases widK_or k with h | h
    · exact .inl h
    · rw [h] at hlt; exact .inr ⟨h, hlt⟩)
  have hN := fun X => refNext_A (famK k) (widK k) (wid_fam k) (widK_or k) a ha hck hbv X
  by_cases h : a.val + 1 < 2 ^ widK k
  · refine ⟨ofVal (a.val + 1), true, fun X => ?_, fun x hx hx2 => ?_⟩
    · have := hN X
      rwa [refNextAV, if_pos h] at this
    · have h128 : a.val + 1 < 340282366920938463463374607431768211456 := by have := val_lt hx; rcases widK_or k with e | e <;> rw [e] at h <;> omega
      rw [cmpAd_val (ofVal_ok h128) hx, ofVal_val, afterB, Bool.true_and]
      unfold cmpI
      by_cases hc : a.val + 1 < x.val
      · rw [decide_eq_true hc, if_pos (by omega)]; rfl
      · rw [decide_eq_false hc, if_neg (by omega)]
        split <;> rfl
  · refine ⟨⟨0, 0⟩, false, fun X => ?_, fun x hx hx2 => ?_⟩
    · have := hN X
      rwa [refNextAV, if_neg h] at this
    · rw [afterB, Bool.false_and, decide_eq_false (by omega)]
theorem bd_rows3 {n : Nat} (r : Res) : Bd n (.sl .no 1 (rows3 r)) := .sl (fun _ _ e => by cases e) fun x hx e he => by
  simp only [rows3, List.mem_cons, List.not_mem_nil, or_false] at hx
  rcases hx with rfl | rfl | rfl <;> (have := List.mem_singleton.1 he; subst this; exact bd_spNo _)
theorem bd_fams3 {n : Nat} : Bd n (.sl .no 1 fams3) := .sl (fun _ _ e => by cases e) fun x hx e he => by
  simp only [fams3, List.mem_cons, List.not_mem_nil, or_false] at hx
  rcases hx with rfl | rfl | rfl <;> (have := List.mem_singleton.1 he; subst this; exact .int)
theorem resE_bad {r : Res} {k : Nat} (hk : k < 3) (h0 : checkedE r = 0) (h : normL (selR r k) = false) : resE r = 8 := by
  rw [resE, if_neg (by rw [h0]; simp), if_neg]
  match k, hk with
  | 0, _ => (have e : normL r.v4 = false := h); rw [e]; simp
  | 1, _ => (have e : normL r.v6 = false := h); rw [e]; simp
  | 2, _ => (have e : normL r.asw = false := h); rw [e]; simp
theorem resE_ok {r : Res} (h0 : checkedE r = 0) (h : ∀ j, j < 3 → normL (selR r j) = true) : resE r = 0 := by
  have b0 : normL r.v4 = true := h 0 (by decide)
  have b1 : normL r.v6 = true := h 1 (by decide)
  have b2 : normL r.asw = true := h 2 (by decide)
  rw [resE, if_neg (by rw [h0]; simp), b0, b1, b2]; rfl
theorem checked_zero {r : Res} (h : checkedE r = 0) : ∀ k, k < 3 → ∀ s ∈ selR r k, okSp (famK k) s = true := by
  unfold checkedE at h
  split at h
  · cases h
  · split at h
    · rename_i hg
      simp only [Bool.and_eq_true] at hg
      obtain ⟨g0, g1, g2⟩ := hg
      have key : ∀ (fam : Int) (l : List Sp), goodL fam l = true → ∀ s ∈ l, okSp fam s = true := fun fam l hg s hs => by
        cases e : okSp fam s with
        | true => rfl
        | false => rw [goodL_false hs e] at hg; cases hg
      intro k hk
      match k, hk with
      | 0, _ => exact key 4 _ g0
      | 1, _ => exact key 6 _ g1
      | 2, _ => exact key 4 _ g2
    · cases h
theorem refResCheck_A (r : Res) (H : List AObj) (hs : r.small) (ho : r.ok) : CallsA E 39 [.agg r.cells] H (Is H (.int .i64 (resE r))) := by
  have hL : ∀ X, CallsA E 50 [.agg r.cells] X (Is X (.tup [.sl .no 1 (rows3 r), .sl .no 1 fams3])) := fun X => lists_A r X hs ho
  have hV := fun X => refValid_A r X hs ho
  refine .enter Tryz.func39 rfl rfl rfl 64 Tryz.ntmps39 (Nat.le_of_ble_eq_true rfl) ?_
  by_cases hce : checkedE r = 0
  · have hok := checked_zero hce
    have hrb := fun k hk => resE_bad (r := r) (k := k) hk hce
    have hro := resE_ok (r := r) hce
    rw [hce] at hV
    generalize resE r = R at *
    repeat' first
      | refine WpA.seq ?_
      | refine WpA.region ?_
      | refine WpOps.op _ rfl rfl rfl rfl rfl ?_
      | refine WpOps.box _ rfl rfl rfl rfl rfl ?_
      | (refine WpOps.call rfl rfl rfl rfl rfl (by exact hL _) ?_; rintro _ _ ⟨rfl, rfl⟩)
      | (refine WpOps.call rfl rfl rfl rfl rfl (by exact hV _) ?_; rintro _ _ ⟨rfl, rfl⟩)
      | refine WpA.block ?_
      | refine WpOps.nil ?_
      | refine WpA.skip ?_
      | refine WpA.condF rfl ?_
    refine WpA.loopS (α := Nat) (fun k => [(3, .sl .no 1 (rows3 r)), (4, .sl .no 1 fams3), (5, .int .i64 (k : Nat))]) (fun _ => H ++ [.cells r.cells]) (fun k => k ≤ 3 ∧ ∀ j, j < k → normL (selR r j) = true) (fun k => 3 - k) 0 ⟨by omega, by omega⟩ ⟨rfl, rfl, rfl, trivial⟩ rfl (fun k hk => ?_)
    obtain ⟨hk1, hk2⟩ := hk
    by_cases hk3 : k < 3
    · have hd : decide (((k : Nat) : Int) < 3) = true := decide_eq_true (by omega)
      have hg := rows3_get (r := r) hk3
      have hf3 := fams3_get hk3
      have hsl := spRows_len (selR r k)
      have hsm := sel_small hs k
      have hso := sel_ok ho k
      have hoks := hok k hk3
      have hbad := hrb k hk3
      repeat' first
        | refine WpA.condT (congrArg AV.bool hd) ?_
        | refine WpA.seq ?_
        | refine WpA.region ?_
        | refine WpOps.op _ rfl rfl rfl rfl rfl ?_
        | refine WpA.block ?_
        | refine WpOps.nil ?_
        | refine WpA.skip ?_
      refine WpA.loopA (α := Nat) (fun i => [(3, .sl .no 1 (rows3 r)), (4, .sl .no 1 fams3), (5, .int .i64 (k : Nat)), (6, .int .i64 (i : Nat))]) (fun _ => H ++ [.cells r.cells]) (fun i => 1 ≤ i ∧ (i = 1 ∨ i ≤ (selR r k).length) ∧ ∀ j, j < i → j < (selR r k).length → normB (selR r k) j = true) (fun i => (selR r k).length + 1 - i) 1 ⟨Nat.le_refl _, .inl rfl, fun j hj _ => by obtain rfl : j = 0 := (by omega); rfl⟩ ⟨rfl, rfl, rfl, rfl, trivial⟩ rfl (fun _ _ => rfl) (fun _ _ _ _ => TrOk.refl _) (fun _ _ _ => ⟨bd_rows3 r, bd_fams3, .int, .int, trivial⟩) (fun _ => ⟨rfl, rfl, rfl, rfl, trivial⟩) (fun i hi => ?_)
      obtain ⟨hi1, hi3, hi2⟩ := hi
      by_cases hlt : i < (selR r k).length
      · have hd2 : decide (((i : Nat) : Int) < (((spRows (selR r k)).length : Nat) : Int)) = true := decide_eq_true (by rw [hsl]; omega)
        have hgi := spRows_get hlt
        have hg1 := spRows_get (l := selR r k) (i := i - 1) (by omega)
        have hB : normB (selR r k) i = afterB (selR r k)[i].f ((selR r k)[i - 1]'(by omega)).t := by
          rw [normB, List.getElem?_eq_getElem hlt, List.getElem?_eq_getElem (show i - 1 < (selR r k).length by omega)]
          simp; omega
        have hw : IntKind.i64.wrap (((i : Nat) : Int) - 1) = ((i - 1 : Nat) : Int) := by rw [wrap64 (by omega) (by omega)]; omega
        have hxo := hso _ (List.getElem_mem hlt)
        have hyo := hso _ (List.getElem_mem (show i - 1 < (selR r k).length by omega))
        have hxk := hoks _ (List.getElem_mem hlt)
        have hyk := hoks _ (List.getElem_mem (show i - 1 < (selR r k).length by omega))
        obtain ⟨x, hx⟩ : ∃ x, (selR r k)[i] = x := ⟨_, rfl⟩
        obtain ⟨y, hy⟩ : ∃ y, (selR r k)[i - 1]'(by omega) = y := ⟨_, rfl⟩
        rw [hx] at hgi hB hxo hxk
        rw [hy] at hg1 hB hyo hyk
        simp only [okSp, Bool.and_eq_true] at hxk hyk
        obtain ⟨n, is, hN, hq⟩ := next_pair k y.t hyo.2 hyk.1.2
        have hq2 := hq x.f hxo.1 (okAd_lt hxo.1 hxk.1.1)
        have hM := fun X => refCmp_A n x.f X
        rw [← hB] at hq2
        clear hB hxo hyo hxk hyk hq
        generalize cmpAd n x.f = c at *
        refine WpA.cutS [(3, .sl .no 1 (rows3 r)), (4, .sl .no 1 fams3), (5, .int .i64 (k : Nat)), (6, .int .i64 (i : Nat))] (H ++ [.cells r.cells]) (by
          repeat' first
            | refine WpA.condT (congrArg AV.bool hd2) ?_
            | (refine WpOps.elem _ rfl rfl rfl rfl rfl rfl rfl rfl rfl (Int.natCast_nonneg k) hg ?_)
            | refine WpA.seq ?_
            | refine WpA.region ?_
            | refine WpOps.op _ rfl rfl rfl rfl rfl ?_
            | refine WpOps.nil ?_
            | refine WpA.skip ?_
          exact ⟨rfl, ⟨rfl, rfl, rfl, rfl, trivial⟩, rfl⟩) ?_
        refine WpA.seq ?_
        refine WpA.block ?_
        refine WpA.cutS [(3, .sl .no 1 (rows3 r)), (4, .sl .no 1 fams3), (5, .int .i64 (k : Nat)), (6, .int .i64 (i : Nat)), (7, .ptr H.length 1 0), (8, .bool is)] (H ++ [.cells r.cells, .cells n.cells]) (by
          repeat' first
            | refine WpA.drawI (id := 10) [] [0, 0, 0, 0, 0, 0, 0, 0, 0, 0, 0, 0, 0, 0, 0, 0, 0, 3, 2, 0] (by kernel_rfl) (by kernel_rfl) ?_
            | (refine LexH.elem _ rfl rfl rfl rfl rfl rfl rfl rfl rfl rfl (Int.natCast_nonneg k) hg ?_)
            | (refine LexH.elem _ rfl rfl rfl rfl rfl rfl rfl rfl rfl rfl (Int.natCast_nonneg k) hf3 ?_)
            | (refine LexH.elem _ rfl rfl rfl rfl rfl rfl rfl rfl rfl rfl (by rw [hw]; exact Int.natCast_nonneg _) (by rw [hw]; exact hg1) ?_)
            | (refine LexH.alloc3 _ rfl rfl rfl rfl rfl rfl rfl ?_)
            | refine LexH.op0 _ rfl rfl rfl rfl rfl (fun _ => rfl) ?_
            | refine LexH.store rfl rfl rfl rfl rfl rfl rfl rfl rfl rfl rfl ?_
            | refine LexH.call0 rfl rfl rfl rfl rfl rfl (fun _ => by exact hN _) ?_
            | refine LexH.nil ?_
          exact ⟨rfl, ⟨rfl, rfl, rfl, rfl, rfl, rfl, trivial⟩, rfl⟩) ?_
        refine WpA.freezeP (d := 7) (j := 1) rfl rfl ?_
        cases is with
        | false =>
          have hnb : normB (selR r k) i = false := hq2.symm
          rw [hbad (normL_false hlt hnb)]
          repeat' first
            | refine WpA.seq ?_
            | refine WpA.region ?_
            | refine WpOps.op _ rfl rfl rfl rfl rfl ?_
            | refine WpOps.nil ?_
            | refine WpA.ret ?_
            | refine WpA.condT rfl ?_
            | refine WpA.draw (by kernel_rfl) ?_
            | refine LexA.op _ rfl rfl rfl rfl rfl ?_
            | refine LexA.skip rfl rfl rfl ?_
            | refine LexA.nil ?_
          all_goals first
            | exact retK.ok rfl rfl rfl .int
            | cases h
        | true =>
          cases hdc : decide (c ≥ 0) with
          | true =>
            have hnb : normB (selR r k) i = false := by rw [← hq2, hdc]; rfl
            rw [hbad (normL_false hlt hnb)]
            repeat' first
              | refine WpA.condT (congrArg AV.bool hdc) ?_
              | (refine LexA.elem _ rfl rfl rfl rfl rfl rfl rfl rfl rfl (Int.natCast_nonneg k) hg ?_)
              | (refine LexA.elem _ rfl rfl rfl rfl rfl rfl rfl rfl rfl (Int.natCast_nonneg i) hgi ?_)
              | refine WpA.seq ?_
              | refine WpA.region ?_
              | refine WpOps.op _ rfl rfl rfl rfl rfl ?_
              | refine WpOps.nil ?_
              | refine WpA.ret ?_
              | refine WpA.draw (by kernel_rfl) ?_
              | refine LexA.op _ rfl rfl rfl rfl rfl ?_
              | refine LexA.call rfl rfl rfl rfl rfl (by exact hM _) ?_
              | refine LexA.nil ?_
            all_goals first
              | exact retK.ok rfl rfl rfl .int
              | cases h
          | false =>
            have hnb : normB (selR r k) i = true := by rw [← hq2, hdc]; rfl
            repeat' first
              | refine WpA.condF (congrArg AV.bool hdc) ?_
              | (refine LexA.elem _ rfl rfl rfl rfl rfl rfl rfl rfl rfl (Int.natCast_nonneg k) hg ?_)
              | (refine LexA.elem _ rfl rfl rfl rfl rfl rfl rfl rfl rfl (Int.natCast_nonneg i) hgi ?_)
              | refine WpA.seq ?_
              | refine WpA.region ?_
              | refine WpOps.op _ rfl rfl rfl rfl rfl ?_
              | refine WpOps.nil ?_
              | refine WpA.skip ?_
              | refine WpA.draw (by kernel_rfl) ?_
              | refine LexA.op _ rfl rfl rfl rfl rfl ?_
              | refine LexA.call rfl rfl rfl rfl rfl (by exact hM _) ?_
              | refine LexA.nil ?_
            refine ⟨i + 1, ⟨by omega, .inr hlt, fun j hj h2 => ?_⟩, by show (selR r k).length + 1 - (i + 1) < (selR r k).length + 1 - i; omega, ⟨rfl, rfl, rfl, congrArg (AV.int .i64) (wrap64 (by omega) (by omega)), trivial⟩, [.dead], by simp⟩
            rcases Nat.lt_or_ge j i with h | h
            · exact hi2 j h h2
            · have : j = i := by omega
              subst this
              exact hnb
      · have hd2 : decide (((i : Nat) : Int) < (((spRows (selR r k)).length : Nat) : Int)) = false := decide_eq_false (by rw [hsl]; omega)
        have hgood : normL (selR r k) = true := normL_true (fun j hj => hi2 j (by omega) hj)
        repeat' first
          | refine WpA.condF (congrArg AV.bool hd2) ?_
          | (refine WpOps.elem _ rfl rfl rfl rfl rfl rfl rfl rfl rfl (Int.natCast_nonneg k) hg ?_)
          | refine WpA.seq ?_
          | refine WpA.region ?_
          | refine WpOps.op _ rfl rfl rfl rfl rfl ?_
          | refine WpA.exit ?_
          | refine WpOps.nil ?_
        refine ⟨k + 1, ⟨by omega, fun j hj => ?_⟩, by omega, ⟨rfl, rfl, congrArg (AV.int .i64) (wrap64 (by omega) (by omega)), trivial⟩, rfl⟩
        rcases Nat.lt_or_ge j k with h | h
        · exact hk2 j h
        · have : j = k := by omega
          subst this; exact hgood
    · have hd : decide (((k : Nat) : Int) < 3) = false := decide_eq_false (by omega)
      rw [hro (fun j hj => hk2 j (by omega))]
      repeat' first
        | refine WpA.condF (congrArg AV.bool hd) ?_
        | refine WpA.seq ?_
        | refine WpA.region ?_
        | refine WpOps.op _ rfl rfl rfl rfl rfl ?_
        | refine WpA.exit ?_
        | refine WpOps.nil ?_
        | refine WpA.ret ?_
      exact retK.ok rfl rfl rfl .int
  · have hre : resE r = checkedE r := by rw [resE, if_pos hce]
    rw [hre]
    repeat' first
      | refine WpA.seq ?_
      | refine WpA.region ?_
      | refine WpOps.op _ rfl rfl rfl rfl rfl ?_
      | refine WpOps.box _ rfl rfl rfl rfl rfl ?_
      | (refine WpOps.call rfl rfl rfl rfl rfl (by exact hV _) ?_; rintro _ _ ⟨rfl, rfl⟩)
      | refine WpOps.nil ?_
      | refine WpA.ret ?_
      | refine WpA.skip ?_
      | refine WpA.cond _ rfl (fun h => ?_) (fun h => ?_)
    · exact retK.ok rfl rfl rfl .int
    all_goals (exact absurd (by simpa using h) hce)
end Go.Gp.Tryz

/- The reference of signatures: their forms. -/
namespace Go.Gp.Tryz
variable [Inhabited MaxLenT]
open Go.Proofs
set_option linter.unusedVariables false
set_option linter.unusedSimpArgs false
set_option linter.unusedSectionVars false
set_option maxHeartbeats 4000000

theorem power7_A (n : Nat) (H : List AObj) (hn : n ≤ 4) : CallsA E 92 [.int .i64 (n : Nat)] H (Is H (.int .i64 ((2 ^ n : Nat) : Int))) := by
  refine .enter Tryz.func92 rfl rfl rfl 14 Tryz.ntmps92 (Nat.le_of_ble_eq_true rfl) ?_
  repeat' first
    | refine WpA.seq ?_
    | refine WpA.region ?_
    | refine WpOps.op _ rfl rfl rfl rfl rfl ?_
    | refine WpA.block ?_
    | refine WpOps.nil ?_
  refine WpA.loopS (α := Nat) (fun i => [(0, .int .i64 (n : Nat)), (3, .int .i64 ((2 ^ i : Nat) : Int)), (4, .int .i64 (i : Nat))]) (fun _ => H ++ []) (fun i => i ≤ n) (fun i => n - i) 0 (Nat.zero_le _) ⟨rfl, rfl, rfl, trivial⟩ rfl (fun i hi => ?_)
  by_cases hlt : i < n
  · have hl : decide (((i : Nat) : Int) < ((n : Nat) : Int)) = true := decide_eq_true (by omega)
    have hp : 2 ^ (i + 1) ≤ 2 ^ 4 := Nat.pow_le_pow_right (by decide) (by omega)
    have hp2 : 2 ^ (i + 1) = 2 ^ i + 2 ^ i := by rw [Nat.pow_succ]; omega
    have hw : IntKind.i64.wrap (((2 ^ i : Nat) : Int) + ((2 ^ i : Nat) : Int)) = ((2 ^ (i + 1) : Nat) : Int) := by
      rw [hp2] at hp ⊢
      obtain ⟨p, hpp⟩ : ∃ p, p = 2 ^ i := ⟨_, rfl⟩
      rw [← hpp] at hp ⊢
      rw [wrap64 (by omega) (by omega)]
      omega
    repeat' first
      | refine WpA.condT (congrArg AV.bool hl) ?_
      | refine WpA.seq ?_
      | refine WpA.region ?_
      | refine WpOps.op _ rfl rfl rfl rfl rfl ?_
      | refine WpA.block ?_
      | refine WpOps.nil ?_
      | refine WpA.skip ?_
    refine ⟨i + 1, hlt, by omega, ⟨rfl, congrArg (AV.int .i64) hw, congrArg (AV.int .i64) (wrap64 (by omega) (by omega)), trivial⟩, rfl⟩
  · have hl : decide (((i : Nat) : Int) < ((n : Nat) : Int)) = false := decide_eq_false (by omega)
    have : i = n := by omega
    subst this
    repeat' first
      | refine WpA.condF (congrArg AV.bool hl) ?_
      | refine WpA.seq ?_
      | refine WpA.region ?_
      | refine WpOps.op _ rfl rfl rfl rfl rfl ?_
      | refine WpA.exit ?_
      | refine WpOps.nil ?_
      | refine WpA.ret ?_
    exact retK.ok rfl rfl rfl .int
theorem refSig_W (h : Nat) (q idx : Int) (hq : ((2 ^ h : Nat) : Int) = q) (h4 : h ≤ 4) (ch pa : List (List AV)) (H : List AObj) (hP : ∀ X, CallsA E 92 [.int .i64 (h : Nat)] X (Is X (.int .i64 q))) : CallsA E 69 [.int .i64 (h : Nat), .agg (sigC idx ch pa)] H (Is H (.int .i64 (sigE h idx ch.length pa.length))) := by
  have hd1 : decide (((h : Nat) : Int) < 0) = false := decide_eq_false (by omega)
  have hd2 : decide (((h : Nat) : Int) > 4) = false := decide_eq_false (by omega)
  rw [sigE, if_neg (by omega), hq]
  refine .enter Tryz.func69 rfl rfl rfl 34 Tryz.ntmps69 (Nat.le_of_ble_eq_true rfl) ?_
  repeat' first
    | refine WpA.seq ?_
    | refine WpA.region ?_
    | refine WpOps.op _ rfl rfl rfl rfl rfl ?_
    | refine WpOps.box _ rfl rfl rfl rfl rfl ?_
    | refine WpOps.nil ?_
    | refine WpA.ret ?_
    | refine WpA.skip ?_
    | refine WpA.condT rfl ?_
    | refine WpA.cond _ rfl (fun h => ?_) (fun h => ?_)
    | refine WpA.draw (by kernel_rfl) ?_
    | refine LexA.op _ rfl rfl rfl rfl rfl ?_
    | refine LexA.skip rfl rfl rfl ?_
    | refine LexA.call rfl rfl rfl rfl rfl (by exact hP _) ?_
    | refine LexA.gsplit _ rfl rfl rfl (fun h => ?_) (fun h => ?_)
    | refine LexA.nil ?_
  all_goals first
    | (exfalso; simp [hd1, hd2] at h; done)
    | (refine retK.ok rfl rfl (congrArg (AV.int .i64) ?_) .int; clear hP hd1 hd2 hq; simp at *; first | done | omega | (split <;> first | rfl | omega | (simp_all; done) | (simp_all; omega)))
theorem refSigCheck_A (h : Nat) (idx : Int) (ch pa : List (List AV)) (H : List AObj) : CallsA E 69 [.int .i64 (h : Nat), .agg (sigC idx ch pa)] H (Is H (.int .i64 (sigE h idx ch.length pa.length))) := by
  by_cases h4 : h ≤ 4
  · exact refSig_W h _ idx rfl h4 ch pa H (fun X => power7_A h X h4)
  · rw [sigE, if_pos (by omega)]
    have hd1 : decide (((h : Nat) : Int) < 0) = false := decide_eq_false (by omega)
    have hd2 : decide (((h : Nat) : Int) > 4) = true := decide_eq_true (by omega)
    refine .enter Tryz.func69 rfl rfl rfl 34 Tryz.ntmps69 (Nat.le_of_ble_eq_true rfl) ?_
    repeat' first
      | refine WpA.condT (congrArg AV.bool hd2) ?_
      | refine WpA.seq ?_
      | refine WpA.region ?_
      | refine WpOps.op _ rfl rfl rfl rfl rfl ?_
      | refine WpOps.box _ rfl rfl rfl rfl rfl ?_
      | refine WpOps.nil ?_
      | refine WpA.ret ?_
    all_goals first
      | exact retK.ok rfl rfl rfl .int
      | (exfalso; simp at *; omega)
end Go.Gp.Tryz
