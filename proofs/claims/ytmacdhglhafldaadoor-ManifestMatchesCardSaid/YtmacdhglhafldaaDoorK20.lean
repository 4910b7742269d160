/- Part of a proof: GdW7, GdW8, GdW9, GdM1, GdM2, GdM3, GdS1, GdS2, GdS3, GdS4 -/
import Derived.Test.YtmacdhglhafldaaDoorK12
import Derived.Test.YtmacdhglhafldaaDoorK14
import Derived.Test.YtmacdhglhafldaaDoorK15
import Derived.Test.YtmacdhglhafldaaDoorK18
import Derived.Test.YtmacdhglhafldaaDoorK19
import Derived.Lib.Bytealg



/- The manifest's checks: the search. -/
namespace Go.Gp.Tryd
open Go.Proofs
set_option linter.unusedVariables false
set_option linter.unusedSimpArgs false
set_option maxHeartbeats 4000000

theorem lt_irrefl (x : List UInt8) : lt x x = false := by
  rw [lt_not x x]; simp

theorem lt_trans : ∀ {x y z : List UInt8}, lt x y = true → lt y z = true → lt x z = true
  | [], [], _, h, _ => by cases h
  | [], _ :: _, [], _, h => by cases h
  | [], _ :: _, _ :: _, _, _ => rfl
  | _ :: _, [], _, h, _ => by cases h
  | _ :: _, _ :: _, [], _, h => by cases h
  | a :: x, b :: y, c :: z, h1, h2 => by
    have h1' : (decide (a < b) || (a == b && lt x y)) = true := h1
    have h2' : (decide (b < c) || (b == c && lt y z)) = true := h2
    show (decide (a < c) || (a == c && lt x z)) = true
    simp only [Bool.or_eq_true, decide_eq_true_eq, Bool.and_eq_true, beq_iff_eq, UInt8.lt_iff_toNat_lt] at *
    rcases h1' with h1' | ⟨rfl, h1'⟩
    · rcases h2' with h2' | ⟨rfl, h2'⟩
      · exact .inl (by omega)
      · exact .inl h1'
    · rcases h2' with h2' | ⟨rfl, h2'⟩
      · exact .inl h2'
      · exact .inr ⟨rfl, lt_trans h1' h2'⟩

def nm (fs : List File) (k : Nat) : List UInt8 := ((fs[k]?).map File.name).getD []
theorem nm_eq {fs : List File} {k : Nat} (h : k < fs.length) : nm fs k = (fs[k]).name := by
  rw [nm, List.getElem?_eq_getElem h]; rfl

def Sorted (fs : List File) : Prop := ∀ a b, a < b → b < fs.length → lt (nm fs a) (nm fs b) = true

theorem sorted_of {fs : List File} (h : okUpTo fs fs.length = true) : Sorted fs := by
  intro a b hab hb
  have step : ∀ k, k + 1 < fs.length → lt (nm fs k) (nm fs (k + 1)) = true := fun k hk => by
    unfold okUpTo at h
    rw [List.all_eq_true] at h
    have := h (k + 1) (by simpa using hk)
    unfold okAt at this
    rw [List.getElem?_eq_getElem hk] at this
    simp only [List.getElem?_eq_getElem (show k < fs.length by omega), Bool.and_eq_true] at this
    rw [nm_eq hk, nm_eq (by omega)]
    exact this.2
  induction b with
  | zero => omega
  | succ b ih =>
    rcases Nat.lt_or_ge a b with h1 | h1
    · exact lt_trans (ih h1 (by omega)) (step b hb)
    · have : a = b := by omega
      subst this
      exact step a hb

end Go.Gp.Tryd

/- The manifest's checks: Find, both; the law's own function. -/
namespace Go.Gp.Tryd
open Go.Proofs
set_option linter.unusedVariables false
set_option linter.unusedSimpArgs false
set_option maxHeartbeats 4000000

theorem in_A (m : Man) (y : List UInt8) (H : List AObj) (hb : m.fs.length ≤ 1000000000000000) :
    CallsA E 43 [m.av .no, .str y] H (fun x H' => H' = H ∧ ∃ p, x = .ret (.int .i64 p) ∧ ((∃ k : Nat, p = (k : Int) ∧ k < m.fs.length ∧ nm m.fs k = y) ∨ (p = -1 ∧ ∀ k, k < m.fs.length → nm m.fs k ≠ y))) := by
  refine .enter Tryd.func43 rfl rfl rfl 22 Tryd.ntmps43 (Nat.le_of_ble_eq_true rfl) ?_
  repeat' first
    | refine WpA.seq ?_
    | refine WpA.region ?_
    | refine WpOps.op _ rfl rfl rfl rfl rfl ?_
    | refine WpOps.box _ rfl rfl rfl rfl rfl ?_
    | refine WpA.block ?_
    | refine WpOps.nil ?_
  refine WpA.loopS (α := Nat) (fun i => [(2, .ptr H.length 0 0), (1, .str y), (5, .int .i64 i)]) (fun _ => H ++ [AObj.cells (m.cells .no)]) (fun i => i ≤ m.fs.length ∧ ∀ k, k < i → nm m.fs k ≠ y) (fun i => m.fs.length - i) 0 ⟨Nat.zero_le _, fun k h => by omega⟩ ⟨rfl, rfl, rfl, trivial⟩ rfl ?_
  rintro i ⟨hi, hu⟩
  repeat' first
    | refine WpA.seq ?_
    | refine WpA.region ?_
    | refine WpOps.op _ rfl rfl rfl rfl rfl ?_
    | refine WpA.block ?_
    | refine WpA.exit ?_
    | refine WpOps.nil ?_
    | refine WpA.ret ?_
    | refine WpA.skip ?_
    | refine WpA.cond _ rfl (fun h => ?_) (fun h => ?_)
  · simp [rows_length] at h
    have hlt : i < m.fs.length := h
    clear h
    have hwi : IntKind.i64.wrap ((i : Int) + 1) = ((i + 1 : Nat) : Int) := wrap64 (by omega) (by omega)
    refine WpOps.elem (m.fs[i]).row rfl rfl rfl rfl rfl rfl rfl rfl rfl (Int.natCast_nonneg _) (rows_get hlt) ?_
    repeat' first
      | refine WpA.seq ?_
      | refine WpA.region ?_
      | refine WpOps.op _ rfl rfl rfl rfl rfl ?_
      | refine WpOps.nil ?_
      | refine WpA.ret ?_
      | refine WpA.skip ?_
      | refine WpA.cond _ rfl (fun h => ?_) (fun h => ?_)
    · refine retK.ok' (.inr rfl) rfl rfl .int ⟨rfl, _, rfl, .inl ⟨i, rfl, hlt, ?_⟩⟩
      rw [nm_eq hlt]
      simpa using h
    · refine ⟨i + 1, ⟨hlt, fun k hk => ?_⟩, by omega, ⟨rfl, rfl, congrArg (AV.int .i64) hwi, trivial⟩, rfl⟩
      rcases Nat.lt_or_ge k i with h1 | h1
      · exact hu k h1
      · have : k = i := by omega
        subst this
        rw [nm_eq hlt]
        simpa using h
  · simp [rows_length] at h
    exact retK.ok' (.inr rfl) rfl rfl .int ⟨rfl, _, rfl, .inr ⟨rfl, fun k hk => hu k (by omega)⟩⟩

theorem check_ok {m : Man} (h : check m = 0) : Sorted m.fs := by
  refine sorted_of ?_
  unfold check at h
  split at h
  · cases h
  · split at h
    · rename_i h1
      rw [manOk, Bool.and_eq_true] at h1
      exact h1.2
    · cases h

end Go.Gp.Tryd

/- The manifest: Encode. -/
namespace Go.Gp.Tryd
open Go.Proofs
set_option linter.unusedVariables false
set_option linter.unusedSimpArgs false
set_option maxHeartbeats 4000000
set_option maxRecDepth 100000

def File.hs (f : File) : List UInt8 := (List.range 32).map f.h
theorem okUpTo_all {fs : List File} (h : okUpTo fs fs.length = true) : ∀ f ∈ fs, name f.name = true := fun f hf => by
  obtain ⟨i, hi, rfl⟩ := List.mem_iff_getElem.1 hf
  unfold okUpTo at h
  rw [List.all_eq_true] at h
  have := h i (List.mem_range.2 hi)
  unfold okAt at this
  rw [List.getElem?_eq_getElem hi] at this
  simp only [Bool.and_eq_true] at this
  exact this.1

theorem check_good {m : Man} (h : check m = 0) : m.fs.length ≤ 200 ∧ 0 ≤ m.a ∧ m.a ≤ 1099511627776 ∧ 0 ≤ m.b ∧ m.b ≤ 1099511627776 ∧ ∀ f ∈ m.fs, f.name.length ≤ 40 := by
  unfold check at h
  by_cases h1 : 200 < m.fs.length
  · rw [if_pos h1] at h; cases h
  · rw [if_neg h1] at h
    by_cases h2 : manOk m = true
    · have h3 := h2
      simp only [manOk, win, isTime, Bool.and_eq_true, decide_eq_true_eq] at h3
      refine ⟨by omega, h3.1.1.1.1, h3.1.1.1.2, h3.1.1.2.1, h3.1.1.2.2, fun f hf => ?_⟩
      have := okUpTo_all h3.2 f hf
      simp only [name, Bool.and_eq_true, decide_eq_true_eq] at this
      exact this.1.1.1.2
    · rw [if_neg h2] at h; cases h

end Go.Gp.Tryd



/- The manifest: Decode. -/
namespace Go.Gp.Tryd
open Go.Proofs
set_option linter.unusedVariables false
set_option linter.unusedSimpArgs false
set_option maxHeartbeats 4000000
set_option maxRecDepth 100000

/-- A string among a value's items. -/
def rs (o : Oct) (k : Nat) (t : UInt8) (n : Int) : List UInt8 × Int := readStr (o.items.getD k zeroOct).tag (o.items.getD k zeroOct).bs (Oct.cellsL (o.items.getD k zeroOct).items) t n
def zeroMan : Man := ⟨0, 0, 0, []⟩
theorem zeroMan_sub : Sub (.agg [.int .u64 0, .int .i64 0, .int .i64 0, .sl .full 0 []]) (zeroMan.av .no) := Sub.agg (vs := [.int .u64 0, .int .i64 0, .int .i64 0, .sl .no 33 []]) ⟨Sub.refl _, Sub.refl _, Sub.refl _, Sub.empty, trivial⟩

theorem man_bd (n : Nat) (m : Man) (e : Int) : Bd n (.tup [m.av .no, .int .i64 e]) := .tup fun x hx => by
  simp only [List.mem_cons, List.not_mem_nil, or_false] at hx
  rcases hx with rfl | rfl
  · refine .agg fun y hy => ?_
    simp only [List.mem_cons, List.not_mem_nil, or_false] at hy
    rcases hy with rfl | rfl | rfl | rfl
    · exact .int
    · exact .int
    · exact .int
    · exact rows_bd n m.fs
  · exact .int

end Go.Gp.Tryd

/- Digests: words of a block, turns. -/
namespace Go.Gp.Tryd
open Go.Proofs
set_option linter.unusedVariables false
set_option linter.unusedSimpArgs false
set_option maxHeartbeats 4000000
set_option maxRecDepth 100000

def turn (x : UInt32) (k : Nat) : UInt32 := shl32 x (32 - k) ||| shr32 x k

theorem rot_A (x : UInt32) (k : Nat) (h0 : 0 < k) (h1 : k < 32) (H : List AObj) : CallsA E 110 [u32 x, .int .i64 (-(k : Int))] H (Is H (u32 (turn x k))) := by
  have hs : IntKind.u64.wrap (((BitVec.ofInt IntKind.u64.bits (IntKind.u64.wrap (-(k : Int))) &&& BitVec.ofInt IntKind.u64.bits 31).toNat : Nat) : Int) = ((32 - k : Nat) : Int) := by
    have : ∀ k : Fin 32, 0 < k.val → IntKind.u64.wrap (((BitVec.ofInt IntKind.u64.bits (IntKind.u64.wrap (-(k.val : Int))) &&& BitVec.ofInt IntKind.u64.bits 31).toNat : Nat) : Int) = ((32 - k.val : Nat) : Int) := by decide
    exact this ⟨k, h1⟩ h0
  have hs2 : IntKind.u64.wrap (32 - ((32 - k : Nat) : Int)) = (k : Int) := by rw [wrapu64 (by omega) (by omega)]; omega
  refine .enter Tryd.func110 rfl rfl rfl 17 Tryd.ntmps110 (Nat.le_of_ble_eq_true rfl) ?_
  repeat' first
    | (refine WpOps.p1 rfl rfl rfl (.shlN (32 - k) rfl rfl rfl (by exact hs)) ?_)
    | (refine WpOps.p1 rfl rfl rfl (.shrN k rfl rfl rfl (by rw [hs]; exact hs2)) ?_)
    | refine WpA.seq ?_
    | refine WpA.region ?_
    | refine WpOps.op _ rfl rfl rfl rfl rfl ?_
    | refine WpOps.nil ?_
    | refine WpA.ret ?_
  refine retK.ok rfl rfl (congrArg (AV.int .u32) ?_) .int
  rw [w32_shl x (32 - k) (by omega), w32_shr x k (by omega), w32_or]
  rfl

theorem turn_A (x : UInt32) (k : Nat) (h0 : 0 < k) (h1 : k < 32) (H : List AObj) : CallsA E 97 [u32 x, .int .i64 (k : Nat)] H (Is H (u32 (turn x k))) := by
  have hR := fun H => rot_A x k h0 h1 H
  have hw : IntKind.i64.wrap (0 - (k : Int)) = -(k : Int) := by rw [wrap64 (by omega) (by omega)]; omega
  have hR' : ∀ H, CallsA E 110 [u32 x, .int .i64 (IntKind.i64.wrap (0 - (k : Int)))] H (Is H (u32 (turn x k))) := fun H => by rw [hw]; exact hR H
  refine .enter Tryd.func97 rfl rfl rfl 9 Tryd.ntmps97 (Nat.le_of_ble_eq_true rfl) ?_
  repeat' first
    | refine WpA.seq ?_
    | refine WpA.region ?_
    | refine WpOps.op _ rfl rfl rfl rfl rfl ?_
    | (refine WpOps.call rfl rfl rfl rfl rfl (by exact hR' _) ?_; rintro _ _ ⟨rfl, rfl⟩)
    | refine WpOps.nil ?_
    | refine WpA.ret ?_
  exact retK.ok rfl rfl rfl .int

abbrev bytesB (bs : List UInt8) : AObj := .cells (bs.map u8)
def byteAt (bs : List UInt8) (k : Nat) : UInt8 := bs.getD k 0
theorem byteAt_get {bs : List UInt8} {k : Nat} (h : k < bs.length) : (bs.map u8)[k]? = some (u8 (byteAt bs k)) := by
  rw [List.getElem?_map, List.getElem?_eq_getElem h, byteAt, List.getD_eq_getElem?_getD, List.getElem?_eq_getElem h]; rfl
def wordOf (bs : List UInt8) (i : Nat) : UInt32 :=
  shl32 (byteAt bs (4 * i)).toUInt32 24 ||| shl32 (byteAt bs (4 * i + 1)).toUInt32 16 ||| shl32 (byteAt bs (4 * i + 2)).toUInt32 8 ||| (byteAt bs (4 * i + 3)).toUInt32

theorem word_A (bs : List UInt8) (hb : bs.length = 64) (m j i : Nat) (hi : i < 16) (H : List AObj) (hH : H[m + j]? = some (bytesB bs)) : CallsA E 109 [.ptr m j 0, .int .i64 (i : Nat)] H (Is H (u32 (wordOf bs i))) := by
  have e0 : IntKind.i64.wrap (4 * (i : Int)) = ((4 * i : Nat) : Int) := by rw [wrap64 (by omega) (by omega)]; omega
  have e1 : ∀ k : Nat, k < 4 → IntKind.i64.wrap (IntKind.i64.wrap (4 * (i : Int)) + (k : Int)) = ((4 * i + k : Nat) : Int) := fun k hk => by rw [e0, wrap64 (by omega) (by omega)]; omega
  refine .enter Tryd.func109 rfl rfl rfl 42 Tryd.ntmps109 (Nat.le_of_ble_eq_true rfl) ?_
  have hX : ∀ L, (H ++ L)[m + j]? = some (bytesB bs) := fun L => getL hH
  repeat' first
    | refine WpA.seq ?_
    | refine WpA.region ?_
    | refine WpOps.op _ rfl rfl rfl rfl rfl ?_
    | (refine LexA.p1 rfl rfl rfl (.elemP (4 * i) rfl rfl rfl rfl rfl (by exact e0) (by omega)) ?_)
    | (refine LexA.p1 rfl rfl rfl (.elemP (4 * i + 1) rfl rfl rfl rfl rfl (by exact e1 1 (by decide)) (by omega)) ?_)
    | (refine LexA.p1 rfl rfl rfl (.elemP (4 * i + 2) rfl rfl rfl rfl rfl (by exact e1 2 (by decide)) (by omega)) ?_)
    | (refine LexA.p1 rfl rfl rfl (.elemP (4 * i + 3) rfl rfl rfl rfl rfl (by exact e1 3 (by decide)) (by omega)) ?_)
    | (refine LexA.p1 rfl rfl rfl (.loadN rfl rfl (hX _) rfl rfl rfl (by exact byteAt_get (by omega))) ?_)
    | refine WpOps.nil ?_
    | refine WpA.ret ?_
    | refine WpA.draw (by kernel_rfl) ?_
    | refine LexA.op _ rfl rfl rfl rfl rfl ?_
    | refine LexA.sh _ rfl rfl rfl rfl rfl ?_
    | refine LexA.nil ?_
  refine retK.ok rfl rfl (congrArg (AV.int .u32) ?_) .int
  simp only [w32_byte, w32_shl _ 24 (by decide), w32_shl _ 16 (by decide), w32_shl _ 8 (by decide), w32_or]
  rfl
end Go.Gp.Tryd

/- Digests: the schedule of a block. -/
namespace Go.Gp.Tryd
open Go.Proofs
set_option linter.unusedVariables false
set_option linter.unusedSimpArgs false
set_option maxHeartbeats 4000000
set_option maxRecDepth 100000

def mixW (l : List UInt32) (i : Nat) : UInt32 :=
  (turn (l.getD (i - 2) 0) 17 ^^^ turn (l.getD (i - 2) 0) 19 ^^^ shr32 (l.getD (i - 2) 0) 10) + l.getD (i - 7) 0 + (turn (l.getD (i - 15) 0) 7 ^^^ turn (l.getD (i - 15) 0) 18 ^^^ shr32 (l.getD (i - 15) 0) 3) + l.getD (i - 16) 0
def schedL (bs : List UInt8) : Nat → List UInt32
  | 0 => []
  | i + 1 => schedL bs i ++ [if i < 16 then wordOf bs i else mixW (schedL bs i) i]
theorem schedL_len (bs : List UInt8) : ∀ i, (schedL bs i).length = i
  | 0 => rfl
  | i + 1 => by rw [schedL, List.length_append, schedL_len bs i]; rfl
def partC (n : Nat) (l : List UInt32) : List AV := l.map u32 ++ List.replicate (n - l.length) (u32 0)
theorem partC_len {n : Nat} {l : List UInt32} (h : l.length ≤ n) : (partC n l).length = n := by simp [partC]; omega
theorem partC_get {n : Nat} {l : List UInt32} {q : Nat} (h : q < l.length) : (partC n l)[q]? = some (u32 (l.getD q 0)) := by
  rw [partC, List.getElem?_append_left (by simpa using h), List.getElem?_map, List.getD_eq_getElem?_getD, List.getElem?_eq_getElem h]; rfl
theorem partC_set {n : Nat} {l : List UInt32} (h : l.length < n) (x : UInt32) : (partC n l).set l.length (u32 x) = partC n (l ++ [x]) := by
  have e : n - l.length = (n - (l.length + 1)) + 1 := by omega
  rw [partC, List.set_append_right _ _ (by simp), List.length_map, Nat.sub_self, e, List.replicate_succ, List.set_cons_zero, partC]
  simp
theorem partC_full {n : Nat} {l : List UInt32} (h : l.length = n) : partC n l = l.map u32 := by simp [partC, h]

theorem sched_A (bs : List UInt8) (hb : bs.length = 64) (m j : Nat) (H : List AObj) (hH : H[m + j]? = some (bytesB bs)) : CallsA E 96 [.ptr m j 0] H (Is H (.agg ((schedL bs 64).map u32))) := by
  have hlt := get_lt hH
  refine .enter Tryd.func96 rfl rfl rfl 56 Tryd.ntmps96 (Nat.le_of_ble_eq_true rfl) ?_
  repeat' first
    | refine WpA.seq ?_
    | refine WpA.region ?_
    | refine WpOps.op _ rfl rfl rfl rfl rfl ?_
    | refine WpOps.alloc _ rfl rfl rfl rfl rfl rfl ?_
    | refine WpA.block ?_
    | refine WpOps.nil ?_
  refine WpA.loopG 64 (fun i => [(0, .ptr m j 0), (2, .ptr H.length 0 0), (3, .ptr H.length 1 0), (7, .int .i64 (i : Nat))]) (fun i => H ++ [.cells (partC 64 []), .cells (partC 64 (schedL bs i))]) (fun _ => True) trivial ⟨rfl, rfl, rfl, rfl, trivial⟩ rfl (fun _ _ => by simp) (fun i hi _ => ?_) (fun i hi _ => ?_) (fun i hi _ => ?_) (fun _ => ?_) (fun _ => ⟨rfl, rfl, rfl, rfl, trivial⟩)
  · refine TrOk.app fun k o hk => ?_
    rcases k with _ | _ | k
    · exact .inl hk
    · injection hk with hk; subst hk
      refine .inr (obd_cells fun a ha => ?_)
      rw [partC, List.mem_append] at ha
      rcases ha with ha | ha
      · obtain ⟨x, _, rfl⟩ := List.mem_map.1 ha; exact .int
      · have := (List.mem_replicate.1 ha).2; subst this; exact .int
    · cases hk
  · exact ⟨.ptr (by simp; omega), .ptr (by simp), .ptr (by simp), .int, trivial⟩
  · have hl := schedL_len bs i
    have hW : i < 16 → ∀ L, CallsA E 109 [.ptr m j 0, .int .i64 (i : Nat)] (H ++ L) (Is (H ++ L) (u32 (wordOf bs i))) := fun h16 L => word_A bs hb m j i h16 _ (getL hH)
    have hg := fun (q : Nat) (hq : q < i) => partC_get (n := 64) (l := schedL bs i) (q := q) (by rw [hl]; exact hq)
    have hs := partC_set (n := 64) (l := schedL bs i) (by rw [hl]; exact hi)
    rw [hl] at hs
    have hlen : i < (partC 64 (schedL bs i)).length := by rw [partC_len (by omega)]; exact hi
    have hL1 : ∀ L, (H ++ ([AObj.cells (partC 64 []), .cells (partC 64 (schedL bs i))] ++ L))[H.length + 1]? = some (.cells (partC 64 (schedL bs i))) := fun L => by rw [List.getElem?_append_right (by omega)]; simp
    by_cases h16 : i < 16
    · repeat' first
        | refine WpA.seq ?_
        | refine WpA.region ?_
        | refine WpOps.op _ rfl rfl rfl rfl rfl ?_
        | (refine WpOps.call rfl rfl rfl rfl rfl (by exact hW h16 _) ?_; rintro _ _ ⟨rfl, rfl⟩)
        | (refine WpOps.p1 rfl rfl rfl (.elemP i rfl rfl rfl rfl rfl rfl hi) ?_)
        | (refine WpOps.u1 rfl rfl (.storeL (j := 1) rfl rfl rfl rfl rfl rfl rfl rfl hlen) ?_)
        | refine WpA.block ?_
        | refine WpA.exit ?_
        | refine WpOps.nil ?_
        | refine WpA.skip ?_
        | refine WpA.cond _ rfl (fun h => ?_) (fun h => ?_)
        | refine WpA.draw (by kernel_rfl) ?_
        | refine LexA.op _ rfl rfl rfl rfl rfl ?_
      · refine ⟨trivial, ⟨rfl, rfl, rfl, congrArg (AV.int .i64) (wrap64 (by omega) (by omega)), trivial⟩, [], ?_⟩
        rw [schedL, if_pos h16, ← hs]
        simp
      all_goals (simp at h; omega)
    · have eq : ∀ q : Nat, 16 ≤ i → q ≤ 16 → IntKind.i64.wrap ((i : Int) - (q : Nat)) = ((i - q : Nat) : Int) := fun q h hq => by rw [wrap64 (by omega) (by omega)]; omega
      have h16 : 16 ≤ i := by omega
      have T := fun (x : UInt32) (k : Nat) (h0 : 0 < k) (h1 : k < 32) H => turn_A x k h0 h1 H
      obtain ⟨y, hy⟩ : ∃ y, y = (schedL bs i).getD (i - 2) 0 := ⟨_, rfl⟩
      obtain ⟨x, hx⟩ : ∃ x, x = (schedL bs i).getD (i - 15) 0 := ⟨_, rfl⟩
      have g2 := hg (i - 2) (by omega)
      have g15 := hg (i - 15) (by omega)
      have g7 := hg (i - 7) (by omega)
      have g16 := hg (i - 16) (by omega)
      rw [← hy] at g2
      rw [← hx] at g15
      repeat' first
        | refine WpA.seq ?_
        | refine WpA.region ?_
        | refine WpOps.op _ rfl rfl rfl rfl rfl ?_
        | (refine LexH.p0 rfl rfl rfl rfl (fun _ => .elemP (i - 15) rfl rfl rfl rfl rfl (by exact eq 15 h16 (by decide)) (by omega)) ?_)
        | (refine LexH.p0 rfl rfl rfl rfl (fun _ => .elemP (i - 2) rfl rfl rfl rfl rfl (by exact eq 2 h16 (by decide)) (by omega)) ?_)
        | (refine LexH.p0 rfl rfl rfl rfl (fun _ => .elemP (i - 7) rfl rfl rfl rfl rfl (by exact eq 7 h16 (by decide)) (by omega)) ?_)
        | (refine LexH.p0 rfl rfl rfl rfl (fun _ => .elemP (i - 16) rfl rfl rfl rfl rfl (by exact eq 16 h16 (by decide)) (by omega)) ?_)
        | (refine LexH.p0 rfl rfl rfl rfl (fun _ => .elemP i rfl rfl rfl rfl rfl rfl hi) ?_)
        | (refine LexH.p1 rfl rfl rfl rfl (.loadN rfl rfl (by exact hL1 []) rfl rfl rfl (by first | exact g2 | exact g15 | exact g7 | exact g16)) ?_)
        | (refine LexH.u2 rfl rfl rfl (.storeL (j := 1) rfl rfl rfl rfl rfl rfl rfl rfl hlen) ?_)
        | refine WpA.block ?_
        | refine WpA.exit ?_
        | refine WpOps.nil ?_
        | refine WpA.skip ?_
        | refine WpA.cond _ rfl (fun h => ?_) (fun h => ?_)
        | refine WpA.drawC (by kernel_rfl) (by kernel_rfl) ?_
        | refine LexH.op0 _ rfl rfl rfl rfl rfl (fun _ => rfl) ?_
        | refine LexH.sh _ rfl rfl rfl rfl rfl rfl ?_
        | refine LexH.call rfl rfl rfl rfl rfl rfl (by exact T y 17 (by decide) (by decide) _) ?_
        | refine LexH.call rfl rfl rfl rfl rfl rfl (by exact T y 19 (by decide) (by decide) _) ?_
        | refine LexH.call rfl rfl rfl rfl rfl rfl (by exact T x 7 (by decide) (by decide) _) ?_
        | refine LexH.call rfl rfl rfl rfl rfl rfl (by exact T x 18 (by decide) (by decide) _) ?_
        | refine LexH.nil ?_
      · simp at h; omega
      · refine ⟨trivial, ⟨rfl, rfl, rfl, congrArg (AV.int .i64) (wrap64 (by omega) (by omega)), trivial⟩, [], ?_⟩
        rw [schedL, if_neg (by omega), ← hs, mixW, ← hx, ← hy]
        simp only [w32_xor, w32_shr _ 10 (by decide), w32_shr _ 3 (by decide), w32_add]
        rw [List.append_nil]
        rfl
      · simp at h; omega
  · have hf := partC_full (n := 64) (schedL_len bs 64)
    obtain ⟨ws, hws⟩ : ∃ ws : List AV, ws = (schedL bs 64).map u32 := ⟨_, rfl⟩
    have hwl : ws.length = 64 := by rw [hws, List.length_map, schedL_len]
    have h0 : (partC 64 []).length = 64 := rfl
    have hone : ∀ a ∈ ws, a.one = true := fun a ha => by rw [hws] at ha; obtain ⟨x, _, rfl⟩ := List.mem_map.1 ha; rfl
    rw [hf, ← hws]
    repeat' first
      | (refine WpOps.p1 rfl rfl rfl (.loadG rfl rfl (app_get rfl rfl) rfl rfl (by exact hwl)) ?_)
      | (refine WpOps.u1 rfl rfl (.storeGL (j := 0) rfl rfl rfl rfl (by exact hone) rfl (by exact hwl) (by exact hwl)) ?_)
      | refine WpA.seq ?_
      | refine WpA.region ?_
      | refine WpOps.op _ rfl rfl rfl rfl rfl ?_
      | refine WpA.exit ?_
      | refine WpOps.nil ?_
      | refine WpA.ret ?_
      | refine WpA.condF rfl ?_
    · exact retK.sub (.inr rfl) rfl (TrOk.refl H) (L := _) (resL_one (resA_agg rfl rfl rfl rfl (by exact hwl))) rfl (Sub.refl _) (.agg fun a ha => by rw [hws] at ha; obtain ⟨x, _, rfl⟩ := List.mem_map.1 ha; exact .int) ⟨rfl, rfl⟩
end Go.Gp.Tryd

/- Digests: a block is added to the registers. -/
namespace Go.Gp.Tryd
open Go.Proofs
set_option linter.unusedVariables false
set_option linter.unusedSimpArgs false
set_option maxHeartbeats 4000000
set_option maxRecDepth 100000

structure Reg where
  (a b c d e f g h : UInt32)
def Reg.cells (r : Reg) : List AV := [u32 r.a, u32 r.b, u32 r.c, u32 r.d, u32 r.e, u32 r.f, u32 r.g, u32 r.h]
def Reg.list (r : Reg) : List UInt32 := [r.a, r.b, r.c, r.d, r.e, r.f, r.g, r.h]
theorem Reg.cells_eq (r : Reg) : r.cells = r.list.map u32 := rfl
def t1W (r : Reg) (k w : UInt32) : UInt32 := r.h + (turn r.e 6 ^^^ turn r.e 11 ^^^ turn r.e 25) + (r.e &&& r.f ^^^ ~~~r.e &&& r.g) + k + w
def t2W (r : Reg) : UInt32 := (turn r.a 2 ^^^ turn r.a 13 ^^^ turn r.a 22) + (r.a &&& r.b ^^^ r.a &&& r.c ^^^ r.b &&& r.c)
def Reg.next (r : Reg) (k w : UInt32) : Reg := ⟨t1W r k w + t2W r, r.a, r.b, r.c, r.d + t1W r k w, r.e, r.f, r.g⟩
def kList : List UInt32 := [0x428a2f98, 0x71374491, 0xb5c0fbcf, 0xe9b5dba5, 0x3956c25b, 0x59f111f1, 0x923f82a4, 0xab1c5ed5,
  0xd807aa98, 0x12835b01, 0x243185be, 0x550c7dc3, 0x72be5d74, 0x80deb1fe, 0x9bdc06a7, 0xc19bf174,
  0xe49b69c1, 0xefbe4786, 0x0fc19dc6, 0x240ca1cc, 0x2de92c6f, 0x4a7484aa, 0x5cb0a9dc, 0x76f988da,
  0x983e5152, 0xa831c66d, 0xb00327c8, 0xbf597fc7, 0xc6e00bf3, 0xd5a79147, 0x06ca6351, 0x14292967,
  0x27b70a85, 0x2e1b2138, 0x4d2c6dfc, 0x53380d13, 0x650a7354, 0x766a0abb, 0x81c2c92e, 0x92722c85,
  0xa2bfe8a1, 0xa81a664b, 0xc24b8b70, 0xc76c51a3, 0xd192e819, 0xd6990624, 0xf40e3585, 0x106aa070,
  0x19a4c116, 0x1e376c08, 0x2748774c, 0x34b0bcb5, 0x391c0cb3, 0x4ed8aa4a, 0x5b9cca4f, 0x682e6ff3,
  0x748f82ee, 0x78a5636f, 0x84c87814, 0x8cc70208, 0x90befffa, 0xa4506ceb, 0xbef9a3f7, 0xc67178f2]
theorem g_kList : g1 = kList.map u32 := by rfl
theorem kList_len : kList.length = 64 := by decide
def rounds (ws : List UInt32) (r : Reg) : Nat → Reg
  | 0 => r
  | i + 1 => (rounds ws r i).next (kList.getD i 0) (ws.getD i 0)
def Reg.plus (r s : Reg) : Reg := ⟨r.a + s.a, r.b + s.b, r.c + s.c, r.d + s.d, r.e + s.e, r.f + s.f, r.g + s.g, r.h + s.h⟩
def addBlock (r : Reg) (bs : List UInt8) : Reg := r.plus (rounds (schedL bs 64) r 64)
def plusTo (r s : Reg) (i : Nat) : List UInt32 := ((r.plus s).list.take i) ++ r.list.drop i
theorem plusTo_len (r s : Reg) {i : Nat} (h : i ≤ 8) : (plusTo r s i).length = 8 := by simp [plusTo, Reg.list]; omega
theorem plusTo_get (r s : Reg) {i : Nat} (h : i < 8) : (plusTo r s i)[i]? = some (r.list.getD i 0) := by
  rw [plusTo, List.getElem?_append_right (by simp [Reg.list]; omega)]
  have : i - ((r.plus s).list.take i).length = 0 := by simp [Reg.list]; omega
  rw [this, List.getElem?_drop, List.getD_eq_getElem?_getD]
  have : i < r.list.length := h
  rw [Nat.add_zero, List.getElem?_eq_getElem this]; rfl
theorem plusTo_set (r s : Reg) {i : Nat} (h : i < 8) : (plusTo r s i).set i (r.list.getD i 0 + s.list.getD i 0) = plusTo r s (i + 1) := by
  rcases i with _ | _ | _ | _ | _ | _ | _ | _ | i
  all_goals first | rfl | omega
theorem one_u32 {l : List UInt32} : ∀ a ∈ l.map u32, a.one = true := fun a ha => by obtain ⟨x, _, rfl⟩ := List.mem_map.1 ha; rfl
theorem bd_u32 {n : Nat} {l : List UInt32} : ∀ a ∈ l.map u32, Bd n a := fun a ha => by obtain ⟨x, _, rfl⟩ := List.mem_map.1 ha; exact .int
theorem map_get {l : List UInt32} {i : Nat} (h : i < l.length) : (l.map u32)[i]? = some (u32 (l.getD i 0)) := by
  rw [List.getElem?_map, List.getD_eq_getElem?_getD, List.getElem?_eq_getElem h]; rfl

theorem add_A (r : Reg) (bs : List UInt8) (hb : bs.length = 64) (m p m' q : Nat) (H : List AObj) (hH : H[m + p]? = some (.cells r.cells)) (hB : H[m' + q]? = some (bytesB bs)) :
    CallsA E 81 [.ptr m p 0, .ptr m' q 0] H (fun e H' => H' = H.set (m + p) (.cells (addBlock r bs).cells) ∧ e = .ret (.tup [])) := by
  have hlt := get_lt hH
  refine .enter Tryd.func81 rfl rfl rfl 111 Tryd.ntmps81 (Nat.le_of_ble_eq_true rfl) ?_
  have hS := fun L => sched_A bs hb m' q (H ++ L) (getL hB)
  have hsl := schedL_len bs 64
  obtain ⟨ws, hws⟩ : ∃ ws, ws = schedL bs 64 := ⟨_, rfl⟩
  rw [← hws] at hS hsl
  repeat' first
    | (refine WpOps.loadOut (.agg r.cells) rfl rfl rfl rfl rfl hH rfl rfl rfl ?_)
    | refine WpA.seq ?_
    | refine WpA.region ?_
    | refine WpOps.op _ rfl rfl rfl rfl rfl ?_
    | refine WpOps.alloc _ rfl rfl rfl rfl rfl rfl ?_
    | refine WpOps.store rfl rfl rfl rfl rfl rfl rfl rfl rfl rfl ?_
    | (refine WpOps.call rfl rfl rfl rfl rfl (by exact hS _) ?_; rintro _ _ ⟨rfl, rfl⟩)
    | refine WpA.block ?_
    | refine WpOps.nil ?_
  refine WpA.loopG 64 (fun i => [(0, .ptr m p 0), (4, .ptr H.length 0 0), (16, .agg (ws.map u32)), (17, .int .i64 (i : Nat))]) (fun i => H ++ [.cells (rounds ws r i).cells]) (fun _ => True) trivial ⟨rfl, rfl, rfl, rfl, trivial⟩ rfl (fun _ _ => by simp) (fun i hi _ => ?_) (fun i hi _ => ?_) (fun i hi _ => ?_) (fun _ => ?_) (fun _ => ⟨rfl, rfl, rfl, rfl, trivial⟩)
  · refine TrOk.app fun k o hk => ?_
    rcases k with _ | k
    · injection hk with hk; subst hk; exact .inr (obd_cells (bd_u32 (l := (rounds ws r (i + 1)).list)))
    · cases hk
  · exact ⟨.ptr (by simp; omega), .ptr (by simp), .agg bd_u32, .int, trivial⟩
  · have hwi := map_get (l := ws) (i := i) (by omega)
    have hki : (g1.drop i)[0]? = some (u32 (kList.getD i 0)) := by
      rw [g_kList, List.getElem?_drop, Nat.add_zero]; exact map_get (by rw [kList_len]; exact hi)
    have hnx : rounds ws r (i + 1) = (rounds ws r i).next (kList.getD i 0) (ws.getD i 0) := rfl
    generalize rounds ws r i = R at *
    have T := fun (x : UInt32) (k : Nat) (h0 : 0 < k) (h1 : k < 32) H => turn_A x k h0 h1 H
    repeat' first
      | refine WpA.seq ?_
      | refine WpA.region ?_
      | refine WpOps.op _ rfl rfl rfl rfl rfl ?_
      | (refine WpOps.p1 rfl rfl rfl (.indexN i rfl rfl rfl rfl rfl hi rfl rfl hwi) ?_)
      | (refine LexA.elemA _ rfl rfl rfl rfl rfl rfl rfl (by decide) (by decide) rfl ?_)
      | (refine WpOps.elemA _ rfl rfl rfl rfl rfl rfl rfl (by decide) (by decide) rfl ?_)
      | (refine LexA.p1 rfl rfl rfl (.elemR i rfl rfl rfl rfl rfl rfl hi) ?_)
      | (refine LexA.p1 rfl rfl rfl (.loadR rfl rfl rfl rfl rfl hki) ?_)
      | refine WpA.block ?_
      | refine WpA.exit ?_
      | refine WpOps.nil ?_
      | refine WpA.skip ?_
      | refine WpA.cond _ rfl (fun h => ?_) (fun h => ?_)
      | refine WpA.draw (by kernel_rfl) ?_
      | refine LexA.op _ rfl rfl rfl rfl rfl ?_
      | refine LexA.call rfl rfl rfl rfl rfl (by exact T R.e 6 (by decide) (by decide) _) ?_
      | refine LexA.call rfl rfl rfl rfl rfl (by exact T R.e 11 (by decide) (by decide) _) ?_
      | refine LexA.call rfl rfl rfl rfl rfl (by exact T R.e 25 (by decide) (by decide) _) ?_
      | refine LexA.call rfl rfl rfl rfl rfl (by exact T R.a 2 (by decide) (by decide) _) ?_
      | refine LexA.call rfl rfl rfl rfl rfl (by exact T R.a 13 (by decide) (by decide) _) ?_
      | refine LexA.call rfl rfl rfl rfl rfl (by exact T R.a 22 (by decide) (by decide) _) ?_
      | refine LexA.nil ?_
    · refine WpOps.weak (T := [(0, .ptr m p 0), (4, .ptr H.length 0 0), (16, .agg (ws.map u32)), (17, .int .i64 (i : Nat)), (79, u32 (t1W R (kList.getD i 0) (ws.getD i 0) + t2W R)), (80, u32 R.a), (82, u32 R.b), (84, u32 R.c), (88, u32 (R.d + t1W R (kList.getD i 0) (ws.getD i 0))), (89, u32 R.e), (91, u32 R.f), (93, u32 R.g)]) ⟨rfl, rfl, rfl, rfl, congrArg (AV.int .u32) ?_, rfl, rfl, rfl, congrArg (AV.int .u32) ?_, rfl, rfl, rfl, trivial⟩ ?_
      · rw [t1W, t2W]
        simp only [w32_add, w32_xor, w32_and, w32_not]
      · rw [t1W]
        simp only [w32_add, w32_xor, w32_and, w32_not]
      repeat' first
        | refine WpA.region ?_
        | refine WpOps.op _ rfl rfl rfl rfl rfl ?_
        | refine WpOps.store rfl rfl rfl rfl rfl rfl rfl rfl rfl rfl ?_
        | refine WpOps.build _ rfl rfl rfl rfl rfl ?_
        | refine WpOps.nil ?_
      refine ⟨trivial, ⟨rfl, rfl, rfl, congrArg (AV.int .i64) (wrap64 (by omega) (by omega)), trivial⟩, [], ?_⟩
      rw [hnx, List.append_nil]
      rfl
    · simp at h; omega
  · repeat' first
      | refine WpA.seq ?_
      | refine WpA.region ?_
      | refine WpOps.op _ rfl rfl rfl rfl rfl ?_
      | refine WpA.block ?_
      | refine WpA.exit ?_
      | refine WpOps.nil ?_
      | refine WpA.condF rfl ?_
    generalize hS2 : rounds ws r 64 = s
    refine WpA.loopG 8 (fun i => [(0, .ptr m p 0), (4, .ptr H.length 0 0), (96, .int .i64 (i : Nat))]) (fun i => H.set (m + p) (.cells ((plusTo r s i).map u32)) ++ [.cells s.cells]) (fun _ => True) trivial ⟨rfl, rfl, rfl, trivial⟩ ?_ (fun _ _ => by simp) (fun i hi _ => TrOk.set2 fun n => obd_cells bd_u32) (fun i hi _ => ?_) (fun i hi _ => ?_) (fun _ => ?_) (fun _ => ⟨rfl, rfl, rfl, trivial⟩)
    · show _ = H.set (m + p) (.cells r.cells) ++ _
      rw [set_self hH]
    · exact ⟨.ptr (by simp; omega), .ptr (by simp), .int, trivial⟩
    · have hg := map_get (l := plusTo r s i) (i := i) (by rw [plusTo_len r s (by omega)]; exact hi)
      have hg1 : (plusTo r s i).getD i 0 = r.list.getD i 0 := by rw [List.getD_eq_getElem?_getD, plusTo_get r s hi]; rfl
      rw [hg1] at hg
      have hg2 : s.cells[i]? = some (u32 (s.list.getD i 0)) := map_get (l := s.list) hi
      obtain ⟨C, hC⟩ : ∃ C, C = (plusTo r s i).map u32 := ⟨_, rfl⟩
      have hCl : i < C.length := by rw [hC, List.length_map, plusTo_len r s (by omega)]; exact hi
      rw [← hC] at hg ⊢
      have hX0 : (H.set (m + p) (.cells C))[m + p]? = some (.cells C) := by simp [hlt]
      have hX1 : (H.set (m + p) (.cells C) ++ [AObj.cells s.cells])[m + p]? = some (.cells C) := by rw [List.getElem?_append_left (by simpa using hlt)]; simp [hlt]
      have hX2 : (H.set (m + p) (.cells C) ++ [AObj.cells s.cells])[H.length + 0]? = some (.cells s.cells) := by rw [List.getElem?_append_right (by simp)]; simp
      repeat' first
        | refine WpA.seq ?_
        | refine WpA.region ?_
        | refine WpOps.op _ rfl rfl rfl rfl rfl ?_
        | (refine LexH.p0 rfl rfl rfl rfl (fun _ => .elemP i rfl rfl rfl rfl rfl rfl hi) ?_)
        | (refine LexH.p1 rfl rfl rfl rfl (.loadN rfl rfl hX1 rfl rfl rfl hg) ?_)
        | (refine LexH.p1 rfl rfl rfl rfl (.loadN rfl rfl hX2 rfl rfl rfl hg2) ?_)
        | (refine LexH.u2 rfl rfl rfl (.storeB rfl rfl hX0 rfl rfl rfl rfl rfl hCl) ?_)
        | refine WpA.block ?_
        | refine WpA.exit ?_
        | refine WpOps.nil ?_
        | refine WpA.skip ?_
        | refine WpA.cond _ rfl (fun h => ?_) (fun h => ?_)
        | refine WpA.drawC (by kernel_rfl) (by kernel_rfl) ?_
        | refine LexH.op0 _ rfl rfl rfl rfl rfl (fun _ => rfl) ?_
        | refine LexH.nil ?_
      · refine ⟨trivial, ⟨rfl, rfl, congrArg (AV.int .i64) (wrap64 (by omega) (by omega)), trivial⟩, [], ?_⟩
        rw [List.append_nil, List.set_set, w32_add, hC, ← plusTo_set r s hi, List.map_set]
      · simp at h; omega
    · repeat' first
        | refine WpA.seq ?_
        | refine WpA.region ?_
        | refine WpOps.op _ rfl rfl rfl rfl rfl ?_
        | refine WpA.exit ?_
        | refine WpOps.nil ?_
        | refine WpA.condF rfl ?_
      refine retK.sub (.inl rfl) (by simp) (TrOk.set1 (obd_cells bd_u32)) rfl rfl (r := .tup []) (Sub.refl _) (.tup (by simp)) ⟨?_, rfl⟩
      rw [addBlock, ← hws, hS2]
      rfl
end Go.Gp.Tryd

/- Digests: bytes are put into the block. -/
namespace Go.Gp.Tryd
open Go.Proofs
set_option linter.unusedVariables false
set_option linter.unusedSimpArgs false
set_option maxHeartbeats 4000000
set_option maxRecDepth 100000

/-- The full blocks of bytes, what is left. -/
def full (l : List UInt8) : List (List UInt8) := (List.range (l.length / 64)).map fun i => (l.drop (64 * i)).take 64
def left (l : List UInt8) : List UInt8 := l.drop (64 * (l.length / 64))
def blockOf (l : List UInt8) : List UInt8 := l ++ List.replicate (64 - l.length) 0
theorem left_len (l : List UInt8) : (left l).length < 64 := by rw [left, List.length_drop]; omega
theorem full_short {l : List UInt8} (h : l.length < 64) : full l = [] ∧ left l = l := by
  have : l.length / 64 = 0 := by omega
  rw [full, left, this]; simp
theorem full_one {l m : List UInt8} (h : l.length = 64) : full (l ++ m) = l :: full m ∧ left (l ++ m) = left m := by
  have e : (l ++ m).length / 64 = m.length / 64 + 1 := by rw [List.length_append, h]; omega
  constructor
  · rw [full, e, List.range_succ_eq_map, List.map_cons, List.map_map, Nat.mul_zero, List.drop_zero, ← h, List.take_left, h]
    congr 1
    rw [full]
    apply List.map_congr_left
    intro i _
    show ((l ++ m).drop (64 * (i + 1))).take 64 = _
    rw [List.drop_append, h]
    have : 64 * (i + 1) - 64 = 64 * i := by omega
    rw [this, List.drop_eq_nil_of_le (by omega), List.nil_append]
  · rw [left, left, e, List.drop_append, h, List.drop_eq_nil_of_le (by omega), List.nil_append]
    congr 1

theorem blockOf_len {l : List UInt8} (h : l.length ≤ 64) : (blockOf l).length = 64 := by simp [blockOf]; omega
theorem blockOf_full {l : List UInt8} (h : l.length = 64) : blockOf l = l := by simp [blockOf, h]
/-- Bytes laid behind what lies in a block. -/
theorem block_put (c s : List UInt8) (h : c.length + s.length ≤ 64) : putA ((blockOf c).map u8) c.length (s.map u8) = (blockOf (c ++ s)).map u8 := by
  apply List.ext_getElem?
  intro k
  rw [putA_get _ _ _ (by rw [List.length_map, List.length_map, blockOf_len (by omega)]; omega), List.length_map]
  simp only [List.getElem?_map, blockOf, List.length_append]
  by_cases h1 : k < c.length
  · rw [if_neg (by omega), List.getElem?_append_left h1, List.append_assoc, List.getElem?_append_left h1]
  · rw [List.append_assoc, List.getElem?_append_right (by omega), List.getElem?_append_right (by omega)]
    by_cases h2 : k < c.length + s.length
    · rw [if_pos (by omega), List.getElem?_append_left (by omega)]
    · rw [if_neg (by omega), List.getElem?_append_right (by omega), List.getElem?_replicate, List.getElem?_replicate]
      by_cases h3 : k < 64
      · rw [if_pos (by omega), if_pos (by omega)]
      · rw [if_neg (by omega), if_neg (by omega)]

abbrev BItem := (Nat × Nat) × List UInt8
def bArgs (x : BItem) : List AV := [.ptr x.1.1 x.1.2 0]
def bPr (x : BItem) (H : List AObj) : Prop := H[x.1.1 + x.1.2]? = some (bytesB x.2)
def bP (x : BItem) : Prop := x.2.length = 64
def putR {σ : Type} (f : σ → BItem → Bool × σ) (m q : Nat) (s : σ) (l : List UInt8) : σ := runIt f s ((full l).map fun b => ((m, q), b))
theorem runIt_all {σ ι : Type} {f : σ → ι → Bool × σ} {ok : σ → Prop} {P : ι → Prop} (hn : ∀ s x, ok s → P x → (f s x).1 = true → ok (f s x).2) (ht : ∀ s x, ok s → P x → (f s x).1 = true) : ∀ (xs ys : List ι) (s : σ), ok s → (∀ x ∈ xs, P x) → runIt f s (xs ++ ys) = runIt f (runIt f s xs) ys ∧ ok (runIt f s xs)
  | [], ys, s, h, _ => ⟨rfl, h⟩
  | x :: xs, ys, s, h, hp => by
    have h1 := ht s x h (hp x List.mem_cons_self)
    have h2 := hn s x h (hp x List.mem_cons_self) h1
    have := runIt_all hn ht xs ys (f s x).2 h2 (fun y hy => hp y (List.mem_cons_of_mem _ hy))
    simp only [List.cons_append, runIt, h1, cond_true]
    exact this

theorem putB_A {σ : Type} {Hf : σ → List AObj} {f : σ → BItem → Bool × σ} {ok : σ → Prop} {yn yj : Nat} (hy : YldsG E (.yld yn yj) bArgs bPr Hf f ok bP) (ht : ∀ s x, ok s → bP x → (f s x).1 = true) (X : List AObj) (N : Nat) (hN : ∀ s, (Hf s ++ X).length = N)
    (s : σ) (hs : ok s) (cur xs : List UInt8) (hc : cur.length < 64) (hx : xs.length ≤ 140737488355328) (tg : Tag) :
    CallsA E 95 [.sl tg 1 (xs.map byteRow), .ptr N 1 0, .ptr N 2 0, .ptr N 0 0] ((Hf s ++ X) ++ [.cells [.yld yn yj], bytesB (blockOf cur), .cells [.int .i64 (cur.length : Nat)]])
      (fun e H' => e = .ret (.tup []) ∧ H' = (Hf (putR f N 1 s (cur ++ xs)) ++ X) ++ [.cells [.yld yn yj], bytesB (blockOf (left (cur ++ xs))), .cells [.int .i64 ((left (cur ++ xs)).length : Nat)]]) := by
  obtain ⟨B0, hB0⟩ : ∃ B0, B0 = (Hf s ++ X) ++ [AObj.cells [.yld yn yj], bytesB (blockOf cur), .cells [.int .i64 (cur.length : Nat)]] := ⟨_, rfl⟩
  have hlenA : ∀ s', (Hf s').length = (Hf s).length := fun s' => hy.len s' s
  let HA : σ × List UInt8 × List UInt8 → List AObj := fun a => (Hf a.1 ++ X) ++ [AObj.cells [.yld yn yj], bytesB (blockOf a.2.1), .cells [.int .i64 (a.2.1.length : Nat)]]
  have hHl : ∀ a, (HA a).length = N + 3 := fun a => by show ((Hf a.1 ++ X) ++ [_, _, _]).length = _; rw [List.length_append, hN]; rfl
  have gz : True := trivial
  have g0 : ∀ a L, (HA a ++ L)[N + 0]? = some (.cells [.yld yn yj]) := fun a L => by
    rw [List.getElem?_append_left (by rw [hHl]; omega)]
    show ((Hf a.1 ++ X) ++ [_, _, _])[N + 0]? = _
    rw [← hN a.1, List.getElem?_append_right (by omega)]; simp
  have g1 : ∀ a, (HA a)[N + 1]? = some (bytesB (blockOf a.2.1)) := fun a => by
    show ((Hf a.1 ++ X) ++ [_, _, _])[N + 1]? = _
    rw [← hN a.1, List.getElem?_append_right (by omega)]; simp
  have g2 : ∀ a, (HA a)[N + 2]? = some (.cells [.int .i64 (a.2.1.length : Nat)]) := fun a => by
    show ((Hf a.1 ++ X) ++ [_, _, _])[N + 2]? = _
    rw [← hN a.1, List.getElem?_append_right (by omega)]; simp
  have st1 : ∀ (s' : σ) (x0 x1 x2 y : AObj), ((Hf s' ++ X) ++ [x0, x1, x2]).set (N + 1) y = (Hf s' ++ X) ++ [x0, y, x2] := fun s' x0 x1 x2 y => by
    rw [← hN s', List.set_append_right _ _ (by omega)]; simp
  have st2 : ∀ (s' : σ) (x0 x1 x2 y : AObj), ((Hf s' ++ X) ++ [x0, x1, x2]).set (N + 2) y = (Hf s' ++ X) ++ [x0, x1, y] := fun s' x0 x1 x2 y => by
    rw [← hN s', List.set_append_right _ _ (by omega)]; simp
  have htr : ∀ s c r s' c' r', TrOk (HA (s, c, r)) (HA (s', c', r')) := fun s c r s' c' r' i o hi => by
    show ((Hf s ++ X) ++ [_, _, _])[i]? = _ ∨ OBd ((Hf s ++ X) ++ [_, _, _]).length o
    rcases Nat.lt_or_ge i N with hlt | hge
    · have hi' : (Hf s' ++ X)[i]? = some o := by
        rw [← hi]; exact (List.getElem?_append_left (by rw [hN]; exact hlt)).symm
      rcases hy.tr s s' X i o hi' with h | h
      · exact .inl (by rw [List.getElem?_append_left (by rw [hN]; exact hlt)]; exact h)
      · refine .inr ?_
        have hab : (Hf s ++ X).length ≤ ((Hf s ++ X) ++ [AObj.cells [.yld yn yj], bytesB (blockOf c), .cells [.int .i64 (c.length : Nat)]]).length := by simp
        exact ⟨fun cs e a ha => (h.1 cs e a ha).le hab, fun es k e x hx => ⟨(h.2.1 es k e x hx).1.le hab, (h.2.1 es k e x hx).2.le hab⟩, fun r t e i => (h.2.2.1 r t e i).le hab, fun m j a s q e => Nat.lt_of_lt_of_le (h.2.2.2 m j a s q e) hab⟩
    · obtain ⟨k, rfl⟩ : ∃ k, i = N + k := ⟨i - N, by omega⟩
      have hi' : [AObj.cells [.yld yn yj], bytesB (blockOf c'), .cells [.int .i64 (c'.length : Nat)]][k]? = some o := by
        rw [← hi]
        show _ = ((Hf s' ++ X) ++ [_, _, _])[N + k]?
        rw [← hN s', List.getElem?_append_right (by omega)]; simp
      rcases k with _ | _ | _ | k
      · injection hi' with hi'; subst hi'
        refine .inl ?_
        rw [← hN s, List.getElem?_append_right (by omega)]; simp
      · injection hi' with hi'; subst hi'
        exact .inr (obd_cells fun a ha => by obtain ⟨x, _, rfl⟩ := List.mem_map.1 ha; exact .int)
      · injection hi' with hi'; subst hi'
        exact .inr (obd_cells fun a ha => by have := List.mem_singleton.1 ha; subst this; exact .int)
      · cases hi'
  have hP : ∀ (l : List UInt8) x, x ∈ (full l).map (fun b => (((N, 1), b) : BItem)) → bP x := fun l x hx => by
    obtain ⟨b, hb, rfl⟩ := List.mem_map.1 hx
    obtain ⟨i, hi, rfl⟩ := List.mem_map.1 hb
    have := List.mem_range.1 hi
    show ((l.drop (64 * i)).take 64).length = 64
    rw [List.length_take, List.length_drop]; omega
  rw [← hB0]
  refine .enter Tryd.func95 rfl rfl rfl 24 Tryd.ntmps95 (Nat.le_of_ble_eq_true rfl) ?_
  repeat' first
    | refine WpA.block ?_
  refine WpA.weakS (T := [(0, .sl .no 1 (xs.map byteRow)), (1, .ptr N 1 0), (2, .ptr N 2 0), (3, .ptr N 0 0)]) ⟨Sub.untag, Sub.refl _, Sub.refl _, Sub.refl _, trivial⟩ ?_
  refine WpA.loopA (α := σ × List UInt8 × List UInt8) (fun a => [(0, .sl .no 1 (a.2.2.map byteRow)), (1, .ptr N 1 0), (2, .ptr N 2 0), (3, .ptr N 0 0)]) HA
    (fun a => ok a.1 ∧ a.2.1.length < 64 ∧ a.2.2.length ≤ 140737488355328 ∧ putR f N 1 a.1 (a.2.1 ++ a.2.2) = putR f N 1 s (cur ++ xs) ∧ left (a.2.1 ++ a.2.2) = left (cur ++ xs)) (fun a => a.2.2.length) (s, cur, xs) ⟨hs, hc, hx, rfl, rfl⟩ ⟨rfl, rfl, rfl, rfl, trivial⟩ (by rw [List.append_nil, hB0])
    (fun a a' => by rw [hHl, hHl]) ?_ ?_ (fun a => ⟨rfl, rfl, rfl, rfl, trivial⟩) ?_
  · rintro ⟨s1, c1, r1⟩ ⟨s2, c2, r2⟩ _ _
    exact htr s1 c1 r1 s2 c2 r2
  · intro a a' _
    rw [hHl]
    exact ⟨bd_slB _, .ptr (by omega), .ptr (by omega), .ptr (by omega), trivial⟩
  · rintro ⟨s1, c1, r1⟩ ⟨hs1, hc1, hr1, hp1, hl1⟩
    dsimp only at hs1 hc1 hr1 hp1 hl1 ⊢
    have gx : ∀ (s' : σ) (x0 x1 x2 : AObj) k, ((Hf s' ++ X) ++ [x0, x1, x2])[N + k]? = [x0, x1, x2][k]? := fun s' x0 x1 x2 k => by
      rw [← hN s', List.getElem?_append_right (by omega)]; simp
    show WpA E none 24 _ _ _ ((Hf s1 ++ X) ++ [AObj.cells [.yld yn yj], bytesB (blockOf c1), .cells [.int .i64 (c1.length : Nat)]])
    obtain ⟨B, hB⟩ : ∃ B, B = (Hf s1 ++ X) ++ [AObj.cells [.yld yn yj], bytesB (blockOf c1), .cells [.int .i64 (c1.length : Nat)]] := ⟨_, rfl⟩
    have b1 : B[N + 1]? = some (bytesB (blockOf c1)) := by rw [hB, gx]; rfl
    have b2 : B[N + 2]? = some (.cells [.int .i64 (c1.length : Nat)]) := by rw [hB, gx]; rfl
    rw [← hB]
    refine WpA.heap (H' := B ++ []) (List.append_nil _).symm ?_
    obtain ⟨k, hk⟩ : ∃ k, k = min r1.length (64 - c1.length) := ⟨_, rfl⟩
    obtain ⟨c', hc'⟩ : ∃ c', c' = c1 ++ r1.take k := ⟨_, rfl⟩
    have hkl : k ≤ r1.length := by omega
    have hcl : c'.length = c1.length + k := by rw [hc', List.length_append, List.length_take]; omega
    obtain ⟨B1, hB1⟩ : ∃ B1, B1 = (Hf s1 ++ X) ++ [AObj.cells [.yld yn yj], bytesB (blockOf c'), .cells [.int .i64 (c1.length : Nat)]] := ⟨_, rfl⟩
    have hset : B.set (N + 1) (.cells (putA ((blockOf c1).map u8) c1.length ((r1.take (min r1.length (64 - c1.length))).map u8))) ++ [] = B1 ++ [] := by
      rw [← hk, block_put _ _ (by rw [List.length_take]; omega), ← hc', hB, st1, ← hB1]
    have d2 : B1[N + 2]? = some (.cells [.int .i64 (c1.length : Nat)]) := by rw [hB1, gx]; rfl
    obtain ⟨v, hv⟩ : ∃ v, v = AV.int .i64 (IntKind.i64.wrap ((c1.length : Int) + ((min r1.length (64 - c1.length) : Nat) : Int))) := ⟨_, rfl⟩
    have hw : IntKind.i64.wrap ((c1.length : Int) + ((min r1.length (64 - c1.length) : Nat) : Int)) = ((c'.length : Nat) : Int) := by rw [← hk, hcl, wrap64 (by omega) (by omega)]; omega
    have hv' : v = .int .i64 ((c'.length : Nat) : Int) := by rw [hv, hw]
    obtain ⟨B2, hB2⟩ : ∃ B2, B2 = (Hf s1 ++ X) ++ [AObj.cells [.yld yn yj], bytesB (blockOf c'), .cells [v]] := ⟨_, rfl⟩
    have e2 : B1.set (N + 2) (.cells [v]) = B2 := by rw [hB1, st2, hB2]
    have d3 : (B2 ++ [])[N + 2]? = some (.cells [v]) := by rw [List.append_nil, hB2, gx]; rfl
    rw [← e2, hv] at d3
    have d0 : (B2 ++ [])[N + 0]? = some (.cells [.yld yn yj]) := by rw [List.append_nil, hB2, gx]; rfl
    rw [← e2, hv] at d0
    repeat' first
      | (refine WpOps.p1 rfl rfl rfl (.loadN rfl rfl (getL b2) rfl rfl rfl rfl) ?_)
      | refine WpA.seq ?_
      | refine WpA.region ?_
      | refine WpOps.op _ rfl rfl rfl rfl rfl ?_
      | (refine WpOps.p1 rfl rfl rfl (.sliceLo c1.length rfl rfl rfl rfl rfl rfl hc1) ?_)
      | (refine WpOps.p1h (B1 ++ []) rfl rfl rfl (.inB b1 (.copyB r1 rfl rfl rfl rfl (getL b1) (by rw [List.length_map, blockOf_len (by omega)]; omega) rfl rfl)) hset ?_)
      | refine WpA.block ?_
      | refine WpA.exit ?_
      | refine WpOps.nil ?_
      | refine WpA.skip ?_
      | refine WpA.cond _ rfl (fun h => ?_) (fun h => ?_)
    · have h0 := h
      have hlo : ((r1.map byteRow).take (r1.map byteRow).length).drop k = (r1.drop k).map byteRow := by rw [List.take_length, List.map_drop]
      have hkk : (((min r1.length (64 - c1.length) : Nat) : Int)).toNat = k := by rw [Int.toNat_natCast, hk]
      repeat' first
        | refine WpA.seq ?_
        | refine WpA.region ?_
        | refine WpOps.op _ rfl rfl rfl rfl rfl ?_
        | (refine LexH.p0 rfl rfl rfl rfl (fun _ => .slice k (r1.map byteRow).length rfl rfl rfl rfl ⟨_, _, rfl, Int.natCast_nonneg _, hkk⟩ rfl (by rw [List.length_map]; exact hkl) (Nat.le_refl _)) ?_)
        | (refine LexH.p1 rfl rfl rfl rfl (.loadN rfl rfl (getL d2) rfl rfl rfl rfl) ?_)
        | (refine LexH.u2 rfl rfl rfl (.storeB rfl rfl d2 rfl rfl rfl rfl rfl (Nat.succ_pos _)) ?_)
        | (refine WpOps.p1 rfl rfl rfl (.loadN rfl rfl d3 rfl rfl rfl rfl) ?_)
        | (refine WpOps.p1 rfl rfl rfl (.loadN rfl rfl d0 rfl rfl rfl rfl) ?_)
        | refine WpOps.nil ?_
        | refine WpA.skip ?_
        | refine WpA.cond _ rfl (fun h => ?_) (fun h => ?_)
        | refine WpA.drawC (by kernel_rfl) (by kernel_rfl) ?_
        | refine LexH.op0 _ rfl rfl rfl rfl rfl (fun _ => rfl) ?_
        | refine LexH.nil ?_
      · have h64 : c'.length = 64 := by
          have h1 : IntKind.i64.wrap ((c1.length : Int) + ((min r1.length (64 - c1.length) : Nat) : Int)) = 64 := by simpa using h
          rw [hw] at h1
          omega
        have hbP : bP ((N, 1), c') := h64
        have hX' : B2 ++ [] = Hf s1 ++ (X ++ [AObj.cells [.yld yn yj], bytesB c', .cells [v]]) := by
          rw [List.append_nil, hB2, blockOf_full h64, List.append_assoc]
        have happ := hy.app s1 ((N, 1), c') (X ++ [AObj.cells [.yld yn yj], bytesB c', .cells [v]]) hs1 hbP (by
          show (Hf s1 ++ (X ++ [_, _, _]))[N + 1]? = _
          rw [← List.append_assoc, gx]; rfl)
        rw [← hX', ← e2, hv] at happ
        refine WpOps.callV rfl rfl rfl rfl rfl happ ?_
        rintro _ _ ⟨rfl, rfl⟩
        rw [ht s1 _ hs1 hbP]
        have hok2 := hy.next s1 _ hs1 hbP (ht s1 _ hs1 hbP)
        obtain ⟨s2, hs2⟩ : ∃ s2, s2 = (f s1 ((N, 1), c')).2 := ⟨_, rfl⟩
        rw [← hs2] at hok2 ⊢
        obtain ⟨B3, hB3⟩ : ∃ B3, B3 = (Hf s2 ++ X) ++ [AObj.cells [.yld yn yj], bytesB c', .cells [v]] := ⟨_, rfl⟩
        rw [← hv]
        have hh : Hf s2 ++ (X ++ [AObj.cells [.yld yn yj], bytesB c', .cells [v]]) = B3 ++ [] := by rw [List.append_nil, hB3, List.append_assoc]
        rw [hh]
        have f1 : B3[N + 1]? = some (bytesB c') := by rw [hB3, gx]; rfl
        have hz : (blockOf []).map u8 = List.replicate 64 (u8 0) := by rfl
        obtain ⟨B4, hB4⟩ : ∃ B4, B4 = (Hf s2 ++ X) ++ [AObj.cells [.yld yn yj], bytesB (blockOf []), .cells [v]] := ⟨_, rfl⟩
        have e4 : B3.set (N + 1) (.cells ((blockOf []).map u8)) = B4 := by rw [hB3, st1, hB4]
        have f2 : B4[N + 2]? = some (.cells [v]) := by rw [hB4, gx]; rfl
        repeat' first
          | refine WpA.region ?_
          | refine WpOps.build _ rfl rfl rfl rfl rfl ?_
          | (refine WpOps.u1h (B4 ++ []) rfl rfl (.inB f1 (.storeG rfl rfl (getL f1) rfl (by intro a ha; obtain ⟨x, hx, rfl⟩ := List.mem_map.1 ha; rw [List.eq_of_mem_replicate hx]; rfl) rfl rfl (by simp [h64]))) (by show B3.set _ (.cells ((blockOf []).map u8)) ++ [] = _; rw [e4]) ?_)
          | (refine WpOps.u1 rfl rfl (.storeB rfl rfl f2 rfl rfl rfl rfl rfl (Nat.succ_pos _)) ?_)
          | refine WpOps.nil ?_
        have hsp : c1 ++ r1 = c' ++ r1.drop k := by rw [hc', List.append_assoc, List.take_append_drop]
        have hfo := full_one (m := r1.drop k) h64
        refine ⟨(s2, [], r1.drop k), ⟨hok2, by show (0 : Nat) < 64; decide, by show (r1.drop k).length ≤ _; rw [List.length_drop]; omega, ?_, ?_⟩, ?_, ⟨congrArg (AV.sl .no 1) hlo, rfl, rfl, rfl, trivial⟩, [], ?_⟩
        · rw [← hp1]
          show putR f N 1 s2 ([] ++ r1.drop k) = putR f N 1 s1 (c1 ++ r1)
          rw [hsp, putR, putR, hfo.1, List.map_cons, runIt, ht s1 _ hs1 hbP, hs2]
          rfl
        · rw [← hl1]
          show left ([] ++ r1.drop k) = left (c1 ++ r1)
          rw [hsp, hfo.2]; rfl
        · show (r1.drop k).length < r1.length
          rw [List.length_drop]
          omega
        · show B4.set (N + 2) (.cells [.int .i64 0]) ++ [] = HA (s2, [], r1.drop k) ++ []
          rw [hB4, st2]
          rfl
      · have hn64 : c'.length ≠ 64 := by
          intro hh
          rw [hw, hh] at h
          exact absurd h (by decide)
        have hdr : r1.drop k = [] := List.drop_eq_nil_of_le (by omega)
        have hsp : c1 ++ r1 = c' := by rw [hc', List.take_of_length_le (by omega)]
        have hr0 : 0 < r1.length := by simpa using h0
        have q1 : putR f N 1 s1 (c' ++ []) = putR f N 1 s (cur ++ xs) := by rw [← hp1, List.append_nil, hsp]
        have q2 : left (c' ++ []) = left (cur ++ xs) := by rw [← hl1, List.append_nil, hsp]
        refine ⟨(s1, c', []), ⟨hs1, by show c'.length < 64; omega, Nat.zero_le _, q1, q2⟩, hr0, ⟨congrArg (AV.sl .no 1) (by rw [hlo, hdr]), rfl, rfl, rfl, trivial⟩, [], ?_⟩
        show B1.set (N + 2) (.cells [AV.int .i64 (IntKind.i64.wrap ((c1.length : Int) + ((min r1.length (64 - c1.length) : Nat) : Int)))]) ++ [] = HA (s1, c', []) ++ []
        rw [← hv, e2, hB2, hv']
    · have h0 : r1 = [] := by
        cases r1 with
        | nil => rfl
        | cons a b => simp at h
      subst h0
      rw [List.append_nil] at hp1 hl1
      have hsh := full_short hc1
      have hfin : HA (s1, c1, []) = (Hf (putR f N 1 s (cur ++ xs)) ++ X) ++ [AObj.cells [.yld yn yj], bytesB (blockOf (left (cur ++ xs))), .cells [.int .i64 ((left (cur ++ xs)).length : Nat)]] := by
        rw [← hp1, ← hl1, putR, hsh.1, hsh.2]; rfl
      have hB' : B = HA (s1, c1, []) := hB
      refine retK.sub (H1 := B) (.inl rfl) (by rw [hB', hB0]; exact (hHl _).trans (hHl (s, cur, [])).symm) (by rw [hB', hB0]; exact htr s cur [] s1 c1 []) rfl rfl (r := .tup []) (Sub.refl _) (.tup (by simp)) ⟨rfl, hB'.trans hfin⟩
end Go.Gp.Tryd
