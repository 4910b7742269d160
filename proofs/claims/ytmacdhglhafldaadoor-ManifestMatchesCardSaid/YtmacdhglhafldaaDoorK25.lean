/- Part of a proof: GdY5, GdP9 -/
import Derived.Test.YtmacdhglhafldaaDoorK24

/- The reference's digests: rotate, table, Padded. -/
namespace Go.Gp.Tryd
open Go.Proofs
set_option linter.unusedVariables false
set_option linter.unusedSimpArgs false
set_option maxHeartbeats 4000000
set_option maxRecDepth 100000

theorem rrot_A (x : UInt32) (k : Nat) (h0 : 0 < k) (h1 : k < 32) (H : List AObj) : CallsA E 69 [u32 x, .int .i64 (k : Nat)] H (Is H (u32 (turn x k))) := by
  have s1 : IntKind.u64.wrap ((k : Nat) : Int) = ((k : Nat) : Int) := by rw [wrapu64 (by omega) (by omega)]
  have s2 : IntKind.u64.wrap (IntKind.i64.wrap (32 - ((k : Nat) : Int))) = ((32 - k : Nat) : Int) := by rw [wrap64 (by omega) (by omega), wrapu64 (by omega) (by omega)]; omega
  refine .enter Tryd.func69 rfl rfl rfl 15 Tryd.ntmps69 (Nat.le_of_ble_eq_true rfl) ?_
  repeat' first
    | (refine WpOps.p1 rfl rfl rfl (.shlN (32 - k) rfl rfl rfl (by exact s2)) ?_)
    | (refine WpOps.p1 rfl rfl rfl (.shrN k rfl rfl rfl (by exact s1)) ?_)
    | refine WpA.seq ?_
    | refine WpA.region ?_
    | refine WpOps.op _ rfl rfl rfl rfl rfl ?_
    | refine WpOps.nil ?_
    | refine WpA.ret ?_
  refine retK.ok rfl rfl (congrArg (AV.int .u32) ?_) .int
  rw [w32_shl x (32 - k) (by omega), w32_shr x k (by omega), w32_or]
  show (((shr32 x k ||| shl32 x (32 - k)).toNat : Nat) : Int) = ((turn x k).toNat : Nat)
  rw [turn, UInt32.or_comm]

theorem table_A (H : List AObj) : CallsA E 67 [] H (Is H (.agg (kList.map u32))) := by
  refine .enter Tryd.func67 rfl rfl rfl 2 Tryd.ntmps67 (Nat.le_of_ble_eq_true rfl) ?_
  repeat' first
    | (refine WpOps.build (kList.map u32) rfl rfl rfl rfl (by kernel_rfl) ?_)
    | refine WpA.seq ?_
    | refine WpA.region ?_
    | refine WpOps.alloc _ rfl rfl rfl rfl rfl rfl ?_
    | refine WpOps.store rfl rfl rfl rfl rfl rfl rfl rfl rfl rfl ?_
    | refine WpOps.nil ?_
    | refine WpA.ret ?_
  exact retK.sub (.inr rfl) rfl (TrOk.refl H) (L := _) («as» := [.agg (kList.map u32)]) (by kernel_rfl) rfl (Sub.refl _) (.agg fun a ha => by obtain ⟨x, _, rfl⟩ := List.mem_map.1 ha; exact .int) ⟨rfl, rfl⟩
def padN (n : Nat) : Nat := (119 - n % 64) % 64
def padZ (b : List UInt8) (i : Nat) : List UInt8 := b ++ 128 :: List.replicate i 0
def pad (b : List UInt8) : List UInt8 := padZ b (padN b.length) ++ be8 (bitsOf b.length)
theorem padZ_succ (b : List UInt8) (i : Nat) : padZ b (i + 1) = padZ b i ++ [0] := by
  rw [padZ, padZ, List.append_assoc, List.cons_append, List.replicate_succ']
theorem padZ_len (b : List UInt8) (i : Nat) : (padZ b i).length = b.length + 1 + i := by simp [padZ]; omega
theorem padN_lt (n : Nat) : padN n < 64 := Nat.mod_lt _ (by decide)
theorem bytes1 (l : List UInt8) : ∀ y ∈ l.map byteRow, ∀ a ∈ y, a.one = true := fun y hy a ha => by
  obtain ⟨b, _, rfl⟩ := List.mem_map.1 hy
  have := List.mem_singleton.1 ha
  subst this
  rfl
theorem bd_rowB (n m j : Nat) (l : List UInt8) (h : m + j < n) : Bd n (.sl (.row m j) 1 (l.map byteRow)) := .sl (fun _ _ e => by cases e; exact h) fun x hx e he => by
  obtain ⟨s, _, rfl⟩ := List.mem_map.1 hx
  have := List.mem_singleton.1 he
  subst this
  exact .int
theorem len1 (H : List AObj) (a b : AObj) : (H ++ [a]).length = (H ++ [b]).length := by simp
theorem lt1 (H : List AObj) (a : AObj) : H.length + 0 < (H ++ [a]).length := by simp
theorem bd_rowBB (n m j : Nat) (a b : List UInt8) (h : m + j < n) : Bd n (.sl (.row m j) 1 (a.map byteRow ++ b.map byteRow)) := by
  rw [← List.map_append]; exact bd_rowB _ _ _ _ h
theorem padded_A (b : List UInt8) (H : List AObj) (hb : b.length ≤ 1000000000) : CallsA E 68 [.sl .no 1 (b.map byteRow)] H (Is H (.sl .no 1 ((pad b).map byteRow))) := by
  have hlen : (b.map byteRow).length = b.length := List.length_map _
  have hf0 : (([] : List (List AV)).length + (b.map byteRow).length) * 1 ≤ 140737488355328 := by rw [hlen, List.length_nil]; omega
  have hf1 : (([] ++ b.map byteRow).length + [byteRow 128].length) * 1 ≤ 140737488355328 := by rw [List.nil_append, hlen, List.length_singleton]; omega
  refine .enter Tryd.func68 rfl rfl rfl 37 Tryd.ntmps68 (Nat.le_of_ble_eq_true rfl) ?_
  repeat' first
    | (refine WpOps.buildSlice (d := 6) [] rfl rfl rfl rfl rfl rfl rfl rfl rfl rfl rfl ?_)
    | (refine WpOps.appN (L := []) (ys := b.map byteRow) rfl rfl rfl rfl rfl rfl rfl (fun k h => by cases h) rfl rfl rfl rfl rfl rfl (by exact bytes1 _) (by exact hf0) ?_)
    | (refine WpOps.appR (xs := [] ++ b.map byteRow) (ys := [byteRow 128]) rfl rfl rfl rfl rfl rfl rfl (fun k h => by cases h) rfl rfl rfl rfl rfl rfl (by exact bytes1 [128]) (by exact hf1) ?_)
    | refine WpA.seq ?_
    | refine WpA.region ?_
    | refine WpOps.op _ rfl rfl rfl rfl rfl ?_
    | (refine WpOps.buildSlice _ rfl rfl rfl rfl rfl rfl rfl rfl rfl rfl rfl ?_)
    | refine WpA.block ?_
    | refine WpOps.nil ?_
  have hz := padN_lt b.length
  refine WpA.loopG (padN b.length) (fun i => [(0, .sl .no 1 (b.map byteRow)), (3, .sl (.row H.length 0) 1 ((padZ b i).map byteRow))]) (fun i => H ++ [.tail ((padZ b i).map byteRow).length 1]) (fun _ => True) trivial ⟨rfl, by
      show AV.sl _ 1 ([] ++ b.map byteRow ++ [byteRow 128]) = .sl (.row H.length 0) 1 ((padZ b 0).map byteRow)
      rw [padZ, List.map_append]; rfl, trivial⟩ (by
      show H ++ [.tail ([] ++ b.map byteRow ++ [byteRow 128]).length 1] = _
      rw [padZ, List.map_append]; rfl) (fun _ _ => by simp) (fun i hi _ => ?_) (fun i hi _ => ⟨bd_slB _, bd_rowB _ _ _ _ (by simp), trivial⟩) (fun i hi _ => ?_) (fun _ => ?_) (fun _ => ⟨rfl, rfl, trivial⟩)
  · refine TrOk.app fun k o hk => ?_
    rcases k with _ | k
    · injection hk with hk; subst hk; exact .inr obd_tail
    · cases hk
  · have hpl := padZ_len b i
    have hf2 : (((padZ b i).map byteRow).length + [byteRow 0].length) * 1 ≤ 140737488355328 := by rw [List.length_map, hpl, List.length_singleton]; omega
    have k1 : ¬ (((((padZ b i).map byteRow).length : Nat) : Int).tmod (((63 : Nat) : Int) + 1) != 56) = false := by
      rw [List.length_map, hpl, Int.tmod_eq_emod_of_nonneg (Int.natCast_nonneg _)]
      have hi' : i < (119 - b.length % 64) % 64 := hi
      simp only [bne_eq_false_iff_eq]
      omega
    rw [padZ_succ, List.map_append]
    repeat' first
      | exact absurd (by assumption) k1
      | (refine WpOps.appR (xs := (padZ b i).map byteRow) (ys := [byteRow 0]) rfl rfl rfl rfl rfl rfl rfl (fun k h => by cases h) rfl rfl rfl rfl rfl rfl (by exact bytes1 [0]) (by exact hf2) ?_)
      | refine WpA.seq ?_
      | refine WpA.region ?_
      | refine WpOps.op _ rfl rfl rfl rfl rfl ?_
      | (refine WpOps.quo _ rfl rfl rfl rfl rfl ?_)
      | (refine WpOps.buildSlice _ rfl rfl rfl rfl rfl rfl rfl rfl rfl rfl rfl ?_)
      | refine WpA.block ?_
      | refine WpOps.nil ?_
      | refine WpA.skip ?_
      | refine WpA.cond _ rfl (fun h => ?_) (fun h => ?_)
    exact ⟨trivial, ⟨rfl, rfl, trivial⟩, [], by rw [List.append_nil]; try rfl⟩
  · have hpl := padZ_len b (padN b.length)
    have k1 : ¬ (((((padZ b (padN b.length)).map byteRow).length : Nat) : Int).tmod (((63 : Nat) : Int) + 1) != 56) = true := by
      rw [List.length_map, hpl, Int.tmod_eq_emod_of_nonneg (Int.natCast_nonneg _), padN]
      simp only [bne_iff_ne, ne_eq, Decidable.not_not]
      omega
    rw [pad, List.map_append]
    obtain ⟨P, hP⟩ : ∃ P, padZ b (padN b.length) = P := ⟨_, rfl⟩
    rw [hP] at hpl k1 ⊢
    have hbits : IntKind.u64.wrap (IntKind.u64.wrap (((b.map byteRow).length : Nat) : Int) * 8) = ((bitsOf b.length : Nat) : Int) := by
      rw [hlen, wrapu64 (x := (b.length : Nat)) (by omega) (by omega), bitsOf, wrapu64 (by omega) (by omega)]; omega
    have hbl : bitsOf b.length < 18446744073709551616 := Nat.mod_lt _ (by decide)
    obtain ⟨n, hn⟩ : ∃ n, bitsOf b.length = n := ⟨_, rfl⟩
    rw [hn] at hbits hbl ⊢
    repeat' first
      | exact absurd (by assumption) k1
      | refine WpA.seq ?_
      | refine WpA.region ?_
      | refine WpOps.op _ rfl rfl rfl rfl rfl ?_
      | (refine WpOps.quo _ rfl rfl rfl rfl rfl ?_)
      | refine WpA.block ?_
      | refine WpA.exit ?_
      | refine WpOps.nil ?_
      | refine WpA.cond _ rfl (fun h => ?_) (fun h => ?_)
    refine WpA.loopG 8 (fun r => [(3, .sl (.row H.length 0) 1 (P.map byteRow ++ ((be8 n).take r).map byteRow)), (4, .int .u64 (n : Nat)), (5, .int .i64 (7 - (r : Nat)))]) (fun r => H ++ [.tail (P.map byteRow ++ ((be8 n).take r).map byteRow).length 1]) (fun _ => True) trivial ⟨by rw [List.take_zero, List.map_nil, List.append_nil]; try rfl, congrArg (AV.int .u64) hbits, rfl, trivial⟩ (by rw [List.take_zero, List.map_nil, List.append_nil]; try rfl) (fun _ _ => len1 _ _ _) (fun r hr _ => ?_) (fun r hr _ => ⟨bd_rowBB _ _ _ _ _ (lt1 _ _), .int, .int, trivial⟩) (fun r hr _ => ?_) (fun _ => ?_) (fun _ => ⟨rfl, rfl, rfl, trivial⟩)
    · refine TrOk.app fun k o hk => ?_
      rcases k with _ | k
      · injection hk with hk; subst hk; exact .inr obd_tail
      · cases hk
    · have hlt : decide ((7 - ((r : Nat) : Int)) ≥ 0) = true := decide_eq_true (by omega)
      have q2 : IntKind.u64.wrap (IntKind.i64.wrap (8 * (7 - ((r : Nat) : Int)))) = ((56 - 8 * r : Nat) : Int) := by rw [wrap64 (by omega) (by omega), wrapu64 (by omega) (by omega)]; omega
      have q3 : ((n : Nat) : Int).fdiv (2 ^ min (56 - 8 * r) IntKind.u64.bits) = ((n / 2 ^ (56 - 8 * r) : Nat) : Int) := by
        have : min (56 - 8 * r) IntKind.u64.bits = 56 - 8 * r := Nat.min_eq_left (by show 56 - 8 * r ≤ 64; omega)
        rw [this, Int.fdiv_eq_ediv_of_nonneg _ (Int.pow_nonneg (by decide))]
        simp
      have htk : (be8 n).take (r + 1) = (be8 n).take r ++ [UInt8.ofNat (n / 2 ^ (56 - 8 * r))] := by
        rw [List.take_succ_eq_append_getElem (by rw [be8_len]; exact hr)]
        simp [be8]
      have htl : ((be8 n).take r).length = r := by rw [List.length_take, be8_len]; omega
      obtain ⟨x, hx⟩ : ∃ x, UInt8.ofNat (n / 2 ^ (56 - 8 * r)) = x := ⟨_, rfl⟩
      have hw : IntKind.u8.wrap (((n : Nat) : Int).fdiv (2 ^ min (56 - 8 * r) IntKind.u64.bits)) = (x.toNat : Int) := by rw [q3, u8wrap, hx]
      rw [htk, hx, List.map_append, ← List.append_assoc]
      obtain ⟨R, hR⟩ : ∃ R, P.map byteRow ++ ((be8 n).take r).map byteRow = R := ⟨_, rfl⟩
      have hRl : R.length = P.length + r := by rw [← hR, List.length_append, List.length_map, List.length_map, htl]
      rw [hR]
      have hf3 : (R.length + 1) * 1 ≤ 140737488355328 := by rw [hRl, hpl]; omega
      have hys : [[AV.int .u8 (IntKind.u8.wrap (((n : Nat) : Int).fdiv (2 ^ min (56 - 8 * r) IntKind.u64.bits)))]] = [x].map byteRow := by rw [hw]; rfl
      repeat' first
        | refine WpA.condT (congrArg AV.bool hlt) ?_
        | (refine WpOps.p1 rfl rfl rfl (.shrN (56 - 8 * r) rfl rfl rfl q2) ?_)
        | (refine WpOps.appR (xs := R) (ys := [[AV.int .u8 (IntKind.u8.wrap (((n : Nat) : Int).fdiv (2 ^ min (56 - 8 * r) IntKind.u64.bits)))]]) rfl rfl rfl rfl rfl rfl rfl (fun k h => by cases h) rfl rfl rfl rfl rfl rfl (by rw [hys]; exact bytes1 [x]) (by exact hf3) ?_)
        | refine WpA.seq ?_
        | refine WpA.region ?_
        | refine WpOps.op _ rfl rfl rfl rfl rfl ?_
        | (refine WpOps.buildSlice _ rfl rfl rfl rfl rfl rfl rfl rfl rfl rfl rfl ?_)
        | refine WpA.block ?_
        | refine WpOps.nil ?_
        | refine WpA.skip ?_
      rw [hys]
      exact ⟨trivial, ⟨rfl, rfl, congrArg (AV.int .i64) (by rw [wrap64 (by omega) (by omega)]; omega), trivial⟩, [], by rw [List.append_nil]; try rfl⟩
    · have hlt : decide ((7 - (((8 : Nat) : Nat) : Int)) ≥ 0) = false := by decide
      rw [List.take_of_length_le (Nat.le_of_eq (be8_len n)), ← List.map_append]
      repeat' first
        | refine WpA.condF (congrArg AV.bool hlt) ?_
        | refine WpA.seq ?_
        | refine WpA.region ?_
        | refine WpOps.op _ rfl rfl rfl rfl rfl ?_
        | refine WpA.exit ?_
        | refine WpOps.nil ?_
        | refine WpA.ret ?_
      exact retK.sub (.inr rfl) rfl (TrOk.refl H) (L := _) rfl rfl Sub.untag (bd_slB _) ⟨rfl, rfl⟩
end Go.Gp.Tryd

/- The reference's digests: plain facts. -/
namespace Go.Gp.Tryd
open Go.Proofs
set_option linter.unusedVariables false
set_option linter.unusedSimpArgs false
set_option maxHeartbeats 4000000

theorem left_mod (l : List UInt8) : (left l).length = l.length % 64 := by rw [left, List.length_drop]; omega
theorem pad_eq (b : List UInt8) : pad b = (b ++ [128]) ++ (List.replicate (padN b.length) 0 ++ be8 (bitsOf b.length)) := by
  rw [pad, padZ]; simp
theorem pad_len (b : List UInt8) : (pad b).length = b.length + 1 + padN b.length + 8 := by rw [pad, List.length_append, padZ_len, be8_len]
theorem full_nil : full [] = [] := rfl
theorem full_pad (b : List UInt8) : full (pad b) = blocksOf b := by
  obtain ⟨c, hc⟩ : ∃ c, left (b ++ [128]) = c := ⟨_, rfl⟩
  have hcl : c.length = (b.length + 1) % 64 := by rw [← hc, left_mod, List.length_append, List.length_singleton]
  rw [pad_eq, (full_app _ _).1, blocksOf, hc]
  congr 1
  by_cases h : 56 < c.length
  · rw [if_pos h]
    have hz : padN b.length = (64 - c.length) + 56 := by rw [padN]; omega
    have e : c ++ (List.replicate (padN b.length) 0 ++ be8 (bitsOf b.length)) = blockOf c ++ (lastOf [] b.length ++ []) := by
      rw [hz, ← List.replicate_append_replicate, blockOf, lastOf]
      simp [List.append_assoc]
    have h1 : (lastOf [] b.length).length = 64 := by simp [lastOf, be8_len]
    rw [e, (full_one (blockOf_len (by omega))).1, (full_one h1).1, full_nil]
  · rw [if_neg h]
    have hz : padN b.length = 56 - c.length := by rw [padN]; omega
    have e : c ++ (List.replicate (padN b.length) 0 ++ be8 (bitsOf b.length)) = lastOf c b.length ++ [] := by
      rw [hz, lastOf]; simp [List.append_assoc]
    have h1 : (lastOf c b.length).length = 64 := by simp [lastOf, be8_len]; omega
    rw [e, (full_one h1).1, full_nil]
theorem pad_blocks (b : List UInt8) : (pad b).length = 64 * (blocksOf b).length := by
  rw [← full_pad, full, List.length_map, List.length_range, pad_len, padN]
  omega
theorem block_get {b : List UInt8} {q : Nat} (h : q < (blocksOf b).length) : (blocksOf b)[q] = ((pad b).drop (64 * q)).take 64 := by
  have e := full_pad b
  have h2 : q < (full (pad b)).length := by rw [e]; exact h
  have : (full (pad b))[q] = ((pad b).drop (64 * q)).take 64 := by simp [full]
  rw [← this]
  congr 1
  exact e.symm
theorem block_len {b : List UInt8} {q : Nat} (h : q < (blocksOf b).length) : ((blocksOf b)[q]).length = 64 := by
  rw [block_get h, List.length_take, List.length_drop, pad_blocks]; omega
theorem pad_byte {b : List UInt8} {q k : Nat} (h : q < (blocksOf b).length) (hk : k < 64) : (pad b)[64 * q + k]? = some (byteAt ((blocksOf b)[q]) k) := by
  have h1 : ((blocksOf b)[q])[k]? = (pad b)[64 * q + k]? := by
    rw [block_get h, List.getElem?_take, if_pos hk, List.getElem?_drop]
  have hl := block_len h
  rw [← h1, byteAt, List.getD_eq_getElem?_getD, List.getElem?_eq_getElem (by omega)]; rfl
/-- A word, byte by byte. -/
def wpart (B : List UInt8) (i : Nat) : Nat → UInt32
  | 0 => 0
  | j + 1 => wpart B i j * 256 + (byteAt B (4 * i + j)).toUInt32
theorem wpart4 (B : List UInt8) (i : Nat) : wpart B i 4 = wordOf B i := by
  have h0 := (byteAt B (4 * i)).toNat_lt
  have h1 := (byteAt B (4 * i + 1)).toNat_lt
  have h2 := (byteAt B (4 * i + 2)).toNat_lt
  have h3 := (byteAt B (4 * i + 3)).toNat_lt
  show (((0 * 256 + (byteAt B (4 * i + 0)).toUInt32) * 256 + (byteAt B (4 * i + 1)).toUInt32) * 256 + (byteAt B (4 * i + 2)).toUInt32) * 256 + (byteAt B (4 * i + 3)).toUInt32 = _
  rw [Nat.add_zero, wordOf]
  generalize byteAt B (4 * i) = a at *
  generalize byteAt B (4 * i + 1) = b at *
  generalize byteAt B (4 * i + 2) = c at *
  generalize byteAt B (4 * i + 3) = d at *
  apply UInt32.toNat_inj.1
  have e1 : (shl32 a.toUInt32 24).toNat = a.toNat * 2 ^ 24 := by rw [shl32_nat]; simp; omega
  have e2 : (shl32 b.toUInt32 16).toNat = b.toNat * 2 ^ 16 := by rw [shl32_nat]; simp; omega
  have e3 : (shl32 c.toUInt32 8).toNat = c.toNat * 2 ^ 8 := by rw [shl32_nat]; simp; omega
  have o1 : a.toNat * 2 ^ 24 ||| b.toNat * 2 ^ 16 = a.toNat * 2 ^ 24 + b.toNat * 2 ^ 16 := by
    have := Nat.two_pow_add_eq_or_of_lt (i := 24) (b := b.toNat * 2 ^ 16) (by omega) a.toNat
    rw [Nat.mul_comm] at this; exact this.symm
  have o2 : (a.toNat * 2 ^ 24 + b.toNat * 2 ^ 16) ||| c.toNat * 2 ^ 8 = a.toNat * 2 ^ 24 + b.toNat * 2 ^ 16 + c.toNat * 2 ^ 8 := by
    have := Nat.two_pow_add_eq_or_of_lt (i := 16) (b := c.toNat * 2 ^ 8) (by omega) (a.toNat * 2 ^ 8 + b.toNat)
    have e : 2 ^ 16 * (a.toNat * 2 ^ 8 + b.toNat) = a.toNat * 2 ^ 24 + b.toNat * 2 ^ 16 := by omega
    rw [e] at this; exact this.symm
  have o3 : (a.toNat * 2 ^ 24 + b.toNat * 2 ^ 16 + c.toNat * 2 ^ 8) ||| d.toNat = a.toNat * 2 ^ 24 + b.toNat * 2 ^ 16 + c.toNat * 2 ^ 8 + d.toNat := by
    have := Nat.two_pow_add_eq_or_of_lt (i := 8) (b := d.toNat) (by omega) (a.toNat * 2 ^ 16 + b.toNat * 2 ^ 8 + c.toNat)
    have e : 2 ^ 8 * (a.toNat * 2 ^ 16 + b.toNat * 2 ^ 8 + c.toNat) = a.toNat * 2 ^ 24 + b.toNat * 2 ^ 16 + c.toNat * 2 ^ 8 := by omega
    rw [e] at this; exact this.symm
  rw [UInt32.toNat_or, UInt32.toNat_or, UInt32.toNat_or, e1, e2, e3, o1, o2, UInt8.toNat_toUInt32, o3]
  simp only [UInt32.toNat_add, UInt32.toNat_mul, UInt8.toNat_toUInt32]
  simp
  omega
theorem schedW (B : List UInt8) {i : Nat} (h : i < 16) : schedL B (i + 1) = schedL B i ++ [wordOf B i] := by rw [schedL, if_pos h]
theorem schedX (B : List UInt8) {i : Nat} (h : 16 ≤ i) : schedL B (i + 1) = schedL B i ++ [mixW (schedL B i) i] := by rw [schedL, if_neg (by omega)]
end Go.Gp.Tryd
