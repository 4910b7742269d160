/- Part of a proof: GpW7, GpW8, GpW9 -/
import Derived.Test.YtmacdhglhafldaaK25
import Derived.Lib.Bytealg

/- The manifest's checks: comparing, searching. -/
namespace Go.Gp.Try
open Go.Proofs
set_option linter.unusedVariables false
set_option maxRecDepth 100000
set_option linter.unusedSimpArgs false
set_option maxHeartbeats 4000000

abbrev cmpB (x y : List UInt8) : Int := Go.Lib.compareBytes x y

theorem extern_A (x y : List UInt8) (H : List AObj) : CallsA E 63 [.str x, .str y] H (Is H (.int .i64 (cmpB x y))) := by
  refine ⟨?_⟩
  intro c vs hH ho hr
  obtain ⟨hl, hr⟩ := hr
  match vs, hl with
  | [u, v], _ =>
    have h1 := hr 0 _ u rfl rfl
    have h2 := hr 1 _ v rfl rfl
    cases h1; cases h2
    have e := run_callFunc_extern (P := E.P) (f := 63) (e := Extern.BytealgCompare.compare) Try.func63 (by kernel_rfl) (by kernel_rfl) (by kernel_rfl) (by kernel_rfl) #[.string ⟨x.toArray⟩, .string ⟨y.toArray⟩] c.w
    show UponC _ _ ((callFunc 63 #[.string ⟨x.toArray⟩, .string ⟨y.toArray⟩]).run E.P c.w)
    rw [e, Go.Lib.run_compareString]
    refine ⟨c.ι, c.H, .ret (.int .i64 (cmpB x y)), Ext.refl c, ho, ?_, hH, rfl⟩
    exact .int

theorem CompareString_A (x y : List UInt8) (H : List AObj) : CallsA E 43 [.str x, .str y] H (Is H (.int .i64 (cmpB x y))) := by
  refine .enter Try.func43 rfl rfl rfl 8 Try.ntmps43 (Nat.le_of_ble_eq_true rfl) ?_
  repeat' first
    | refine WpA.seq ?_
    | refine WpA.region ?_
    | refine WpOps.op _ rfl rfl rfl rfl rfl ?_
    | refine WpOps.box _ rfl rfl rfl rfl rfl ?_
    | refine WpOps.alloc _ rfl rfl rfl rfl rfl rfl ?_
    | refine WpOps.store rfl rfl rfl rfl rfl rfl rfl rfl rfl rfl ?_
    | refine WpOps.skip rfl rfl rfl ?_
    | refine WpOps.build _ rfl rfl rfl rfl rfl ?_
    | refine WpOps.sh _ rfl rfl rfl rfl rfl ?_
    | (refine WpOps.call rfl rfl rfl rfl rfl (by exact extern_A _ _ _) ?_; rintro _ _ ⟨rfl, rfl⟩)
    | refine WpOps.gsplit _ rfl rfl rfl (fun h => ?_) (fun h => ?_)
    | refine WpA.block ?_
    | refine WpA.exit ?_
    | refine WpOps.nil ?_
    | refine WpA.ret ?_
    | refine WpA.skip ?_
    | refine WpA.condT rfl ?_
    | refine WpA.condF rfl ?_
    | refine WpA.cond _ rfl (fun h => ?_) (fun h => ?_)
    | refine WpA.draw (by kernel_rfl) ?_
    | refine LexA.op _ rfl rfl rfl rfl rfl ?_
    | refine LexA.skip rfl rfl rfl ?_
    | refine LexA.build _ rfl rfl rfl rfl rfl ?_
    | refine LexA.sh _ rfl rfl rfl rfl rfl ?_
    | refine LexA.call rfl rfl rfl rfl rfl (by exact extern_A _ _ _) ?_
    | refine LexA.gsplit _ rfl rfl rfl (fun h => ?_) (fun h => ?_)
    | refine LexA.nil ?_
  exact retK.ok rfl rfl rfl .int

theorem Compare_A (x y : List UInt8) (H : List AObj) : CallsA E 20 [.str x, .str y] H (Is H (.int .i64 (cmpB x y))) := by
  refine .enter Try.func20 rfl rfl rfl 8 Try.ntmps20 (Nat.le_of_ble_eq_true rfl) ?_
  repeat' first
    | refine WpA.seq ?_
    | refine WpA.region ?_
    | refine WpOps.op _ rfl rfl rfl rfl rfl ?_
    | refine WpOps.box _ rfl rfl rfl rfl rfl ?_
    | refine WpOps.alloc _ rfl rfl rfl rfl rfl rfl ?_
    | refine WpOps.store rfl rfl rfl rfl rfl rfl rfl rfl rfl rfl ?_
    | refine WpOps.skip rfl rfl rfl ?_
    | refine WpOps.build _ rfl rfl rfl rfl rfl ?_
    | refine WpOps.sh _ rfl rfl rfl rfl rfl ?_
    | (refine WpOps.call rfl rfl rfl rfl rfl (by exact CompareString_A _ _ _) ?_; rintro _ _ ⟨rfl, rfl⟩)
    | refine WpOps.gsplit _ rfl rfl rfl (fun h => ?_) (fun h => ?_)
    | refine WpA.block ?_
    | refine WpA.exit ?_
    | refine WpOps.nil ?_
    | refine WpA.ret ?_
    | refine WpA.skip ?_
    | refine WpA.condT rfl ?_
    | refine WpA.condF rfl ?_
    | refine WpA.cond _ rfl (fun h => ?_) (fun h => ?_)
    | refine WpA.draw (by kernel_rfl) ?_
    | refine LexA.op _ rfl rfl rfl rfl rfl ?_
    | refine LexA.skip rfl rfl rfl ?_
    | refine LexA.build _ rfl rfl rfl rfl rfl ?_
    | refine LexA.sh _ rfl rfl rfl rfl rfl ?_
    | refine LexA.call rfl rfl rfl rfl rfl (by exact CompareString_A _ _ _) ?_
    | refine LexA.gsplit _ rfl rfl rfl (fun h => ?_) (fun h => ?_)
    | refine LexA.nil ?_
  exact retK.ok rfl rfl rfl .int

theorem FindCmp_A (f : File) (y : List UInt8) (H : List AObj) : CallsA E 19 [.agg f.row, .str y] H (Is H (.int .i64 (cmpB f.name y))) := by
  refine .enter Try.func19 rfl rfl rfl 9 Try.ntmps19 (Nat.le_of_ble_eq_true rfl) ?_
  repeat' first
    | refine WpA.seq ?_
    | refine WpA.region ?_
    | refine WpOps.op _ rfl rfl rfl rfl rfl ?_
    | refine WpOps.box _ rfl rfl rfl rfl rfl ?_
    | refine WpOps.alloc _ rfl rfl rfl rfl rfl rfl ?_
    | refine WpOps.store rfl rfl rfl rfl rfl rfl rfl rfl rfl rfl ?_
    | refine WpOps.skip rfl rfl rfl ?_
    | refine WpOps.build _ rfl rfl rfl rfl rfl ?_
    | refine WpOps.sh _ rfl rfl rfl rfl rfl ?_
    | (refine WpOps.call rfl rfl rfl rfl rfl (by exact Compare_A _ _ _) ?_; rintro _ _ ⟨rfl, rfl⟩)
    | refine WpOps.gsplit _ rfl rfl rfl (fun h => ?_) (fun h => ?_)
    | refine WpA.block ?_
    | refine WpA.exit ?_
    | refine WpOps.nil ?_
    | refine WpA.ret ?_
    | refine WpA.skip ?_
    | refine WpA.condT rfl ?_
    | refine WpA.condF rfl ?_
    | refine WpA.cond _ rfl (fun h => ?_) (fun h => ?_)
    | refine WpA.draw (by kernel_rfl) ?_
    | refine LexA.op _ rfl rfl rfl rfl rfl ?_
    | refine LexA.skip rfl rfl rfl ?_
    | refine LexA.build _ rfl rfl rfl rfl rfl ?_
    | refine LexA.sh _ rfl rfl rfl rfl rfl ?_
    | refine LexA.call rfl rfl rfl rfl rfl (by exact Compare_A _ _ _) ?_
    | refine LexA.gsplit _ rfl rfl rfl (fun h => ?_) (fun h => ?_)
    | refine LexA.nil ?_
  exact retK.ok rfl rfl rfl .int
end Go.Gp.Try

/- The manifest's checks: the search. -/
namespace Go.Gp.Try
open Go.Proofs
set_option linter.unusedVariables false
set_option linter.unusedSimpArgs false
set_option maxHeartbeats 4000000

theorem lt_irrefl (x : List UInt8) : lt x x = false := by
  rw [lt_not x x]; simp

theorem lt_trans : ∀ {x y z : List UInt8}, lt x y = true → lt y z = true → lt x z = true
  | [], [], _, h, _ => by cases h
  | [], _ :: _, [], _, h => by cases h
  | [], _ :: _, _ :: _, _, _ => rfl
  | _ :: _, [], _, h, _ => by cases h
  | _ :: _, _ :: _, [], _, h => by cases h
  | a :: x, b :: y, c :: z, h1, h2 => by
    have h1' : (decide (a < b) || (a == b && lt x y)) = true := h1
    have h2' : (decide (b < c) || (b == c && lt y z)) = true := h2
    show (decide (a < c) || (a == c && lt x z)) = true
    simp only [Bool.or_eq_true, decide_eq_true_eq, Bool.and_eq_true, beq_iff_eq, UInt8.lt_iff_toNat_lt] at *
    rcases h1' with h1' | ⟨rfl, h1'⟩
    · rcases h2' with h2' | ⟨rfl, h2'⟩
      · exact .inl (by omega)
      · exact .inl h1'
    · rcases h2' with h2' | ⟨rfl, h2'⟩
      · exact .inl h2'
      · exact .inr ⟨rfl, lt_trans h1' h2'⟩

theorem cmp_neg : ∀ (x y : List UInt8), decide (cmpB x y < 0) = lt x y
  | [], [] => rfl
  | [], _ :: _ => rfl
  | _ :: _, [] => rfl
  | a :: x, b :: y => by
    have ih := cmp_neg x y
    show decide ((if a < b then (-1 : Int) else if b < a then 1 else cmpB x y) < 0) = (decide (a < b) || (a == b && lt x y))
    by_cases h1 : a < b
    · simp [h1]
    · by_cases h2 : b < a
      · have h3 : ¬ a = b := fun e => by subst e; exact h1 h2
        simp [h1, h2, h3]
      · have h3 : a = b := by
          apply UInt8.toNat_inj.1
          rw [UInt8.lt_iff_toNat_lt] at h1 h2
          omega
        subst h3
        simp [h1, ← ih]

theorem cmp_zero : ∀ (x y : List UInt8), (cmpB x y == 0) = (x == y)
  | [], [] => rfl
  | [], _ :: _ => rfl
  | _ :: _, [] => rfl
  | a :: x, b :: y => by
    have ih := cmp_zero x y
    show ((if a < b then (-1 : Int) else if b < a then 1 else cmpB x y) == 0) = (a == b && x == y)
    by_cases h1 : a < b
    · have h3 : ¬ a = b := fun e => by subst e; rw [UInt8.lt_iff_toNat_lt] at h1; omega
      simp [h1, h3]
    · by_cases h2 : b < a
      · have h3 : ¬ a = b := fun e => by subst e; exact h1 h2
        simp [h1, h2, h3]
      · have h3 : a = b := by
          apply UInt8.toNat_inj.1
          rw [UInt8.lt_iff_toNat_lt] at h1 h2
          omega
        subst h3
        simp only [if_neg h1, ih, BEq.rfl, Bool.true_and]

def nm (fs : List File) (k : Nat) : List UInt8 := ((fs[k]?).map File.name).getD []
theorem nm_eq {fs : List File} {k : Nat} (h : k < fs.length) : nm fs k = (fs[k]).name := by
  rw [nm, List.getElem?_eq_getElem h]; rfl

def Sorted (fs : List File) : Prop := ∀ a b, a < b → b < fs.length → lt (nm fs a) (nm fs b) = true

theorem sorted_of {fs : List File} (h : okUpTo fs fs.length = true) : Sorted fs := by
  intro a b hab hb
  have step : ∀ k, k + 1 < fs.length → lt (nm fs k) (nm fs (k + 1)) = true := fun k hk => by
    unfold okUpTo at h
    rw [List.all_eq_true] at h
    have := h (k + 1) (by simpa using hk)
    unfold okAt at this
    rw [List.getElem?_eq_getElem hk] at this
    simp only [List.getElem?_eq_getElem (show k < fs.length by omega), Bool.and_eq_true] at this
    rw [nm_eq hk, nm_eq (by omega)]
    exact this.2
  induction b with
  | zero => omega
  | succ b ih =>
    rcases Nat.lt_or_ge a b with h1 | h1
    · exact lt_trans (ih h1 (by omega)) (step b hb)
    · have : a = b := by omega
      subst this
      exact step a hb

theorem bd2 (n : Nat) (k : IntKind) (a : Int) (b : Bool) : Bd n (.tup [.int k a, .bool b]) := .tup fun e he => by
  simp at he
  rcases he with rfl | rfl
  · exact .int
  · exact .bool

/-- What the search answers. -/
def Found (fs : List File) (y : List UInt8) (p : Int) (b : Bool) : Prop :=
  (b = true → ∃ k : Nat, p = (k : Int) ∧ k < fs.length ∧ nm fs k = y) ∧ (b = false → ∀ k, k < fs.length → nm fs k ≠ y)

theorem mid_eq {i j : Nat} (h : i + j < 4000000000000000000) : IntKind.i64.wrap ((IntKind.u64.wrap (IntKind.i64.wrap ((i : Int) + (j : Int)))).fdiv (2 ^ min 1 64)) = (((i + j) / 2 : Nat) : Int) := by
  rw [wrap64 (x := (i : Int) + j) (by omega) (by omega), wrapu64 (by omega) (by omega)]
  have : ((i : Int) + j).fdiv (2 ^ min 1 64) = ((i + j) / 2 : Nat) := by
    show ((i : Int) + j).fdiv 2 = _
    rw [Int.fdiv_eq_ediv_of_nonneg _ (by omega)]
    omega
  rw [this]
  exact wrap64 (by omega) (by omega)

theorem Search_A (fs : List File) (y : List UInt8) (H : List AObj) (hb : fs.length ≤ 1000000000000000) (hs : Sorted fs) :
    CallsA E 18 [.sl .no 33 (rows fs), .str y, .func 19 []] H (fun x H' => H' = H ∧ ∃ p b, x = .ret (.tup [.int .i64 p, .bool b]) ∧ Found fs y p b) := by
  refine .enter Try.func18 rfl rfl rfl 49 Try.ntmps18 (Nat.le_of_ble_eq_true rfl) ?_
  repeat' first
    | refine WpA.seq ?_
    | refine WpA.region ?_
    | refine WpOps.op _ rfl rfl rfl rfl rfl ?_
    | refine WpOps.box _ rfl rfl rfl rfl rfl ?_
    | refine WpOps.alloc _ rfl rfl rfl rfl rfl rfl ?_
    | refine WpOps.store rfl rfl rfl rfl rfl rfl rfl rfl rfl rfl ?_
    | refine WpOps.skip rfl rfl rfl ?_
    | refine WpOps.build _ rfl rfl rfl rfl rfl ?_
    | refine WpOps.sh _ rfl rfl rfl rfl rfl ?_
    | refine WpOps.gsplit _ rfl rfl rfl (fun h => ?_) (fun h => ?_)
    | refine WpA.block ?_
    | refine WpA.exit ?_
    | refine WpOps.nil ?_
    | refine WpA.ret ?_
    | refine WpA.skip ?_
    | refine WpA.condT rfl ?_
    | refine WpA.condF rfl ?_
    | refine WpA.cond _ rfl (fun h => ?_) (fun h => ?_)
    | refine WpA.draw (by kernel_rfl) ?_
    | refine LexA.op _ rfl rfl rfl rfl rfl ?_
    | refine LexA.skip rfl rfl rfl ?_
    | refine LexA.build _ rfl rfl rfl rfl rfl ?_
    | refine LexA.sh _ rfl rfl rfl rfl rfl ?_
    | refine LexA.gsplit _ rfl rfl rfl (fun h => ?_) (fun h => ?_)
    | refine LexA.nil ?_
  refine WpA.loopS (α := Nat × Nat) (fun p => [(0, .sl .no 33 (rows fs)), (1, .str y), (2, .func 19 []), (8, .int .i64 (rows fs).length), (9, .int .i64 p.1), (10, .int .i64 p.2)]) (fun _ => H ++ [])
    (fun p => p.1 ≤ p.2 ∧ p.2 ≤ fs.length ∧ (∀ k, k < p.1 → lt (nm fs k) y = true) ∧ (∀ k, p.2 ≤ k → k < fs.length → lt (nm fs k) y = false)) (fun p => p.2 - p.1) (0, (rows fs).length)
    ⟨Nat.zero_le _, by rw [rows_length]; exact Nat.le_refl _, fun k h => by omega, fun k h1 h2 => by rw [rows_length] at h1; omega⟩ ⟨rfl, rfl, rfl, rfl, rfl, rfl, trivial⟩ rfl ?_
  rintro ⟨i, j⟩ ⟨h1, h2, h3, h4⟩
  simp only at h1 h2 h3 h4
  dsimp only
  repeat' first
    | refine WpA.seq ?_
    | refine WpA.region ?_
    | refine WpOps.op _ rfl rfl rfl rfl rfl ?_
    | refine WpOps.box _ rfl rfl rfl rfl rfl ?_
    | refine WpOps.alloc _ rfl rfl rfl rfl rfl rfl ?_
    | refine WpOps.store rfl rfl rfl rfl rfl rfl rfl rfl rfl rfl ?_
    | refine WpOps.skip rfl rfl rfl ?_
    | refine WpOps.build _ rfl rfl rfl rfl rfl ?_
    | refine WpOps.sh _ rfl rfl rfl rfl rfl ?_
    | refine WpOps.gsplit _ rfl rfl rfl (fun h => ?_) (fun h => ?_)
    | refine WpA.block ?_
    | refine WpA.exit ?_
    | refine WpOps.nil ?_
    | refine WpA.ret ?_
    | refine WpA.skip ?_
    | refine WpA.condT rfl ?_
    | refine WpA.condF rfl ?_
    | refine WpA.cond _ rfl (fun h => ?_) (fun h => ?_)
    | refine WpA.draw (by kernel_rfl) ?_
    | refine LexA.op _ rfl rfl rfl rfl rfl ?_
    | refine LexA.skip rfl rfl rfl ?_
    | refine LexA.build _ rfl rfl rfl rfl rfl ?_
    | refine LexA.sh _ rfl rfl rfl rfl rfl ?_
    | refine LexA.gsplit _ rfl rfl rfl (fun h => ?_) (fun h => ?_)
    | refine LexA.nil ?_
  · simp at h
    have hm1 : (i + j) / 2 < fs.length := by omega
    have hmid := mid_eq (i := i) (j := j) (by omega)
    have hz : 0 ≤ IntKind.i64.wrap ((IntKind.u64.wrap (IntKind.i64.wrap ((i : Int) + (j : Int)))).fdiv (2 ^ min 1 64)) := by rw [hmid]; omega
    have hl : (rows fs)[(IntKind.i64.wrap ((IntKind.u64.wrap (IntKind.i64.wrap ((i : Int) + (j : Int)))).fdiv (2 ^ min 1 64))).toNat]? = some (fs[(i + j) / 2]).row := by rw [hmid]; exact rows_get hm1
    have hw1 : IntKind.i64.wrap (IntKind.i64.wrap ((IntKind.u64.wrap (IntKind.i64.wrap ((i : Int) + (j : Int)))).fdiv (2 ^ min 1 64)) + 1) = (((i + j) / 2 + 1 : Nat) : Int) := by
      rw [hmid, wrap64 (by omega) (by omega)]; rfl
    refine WpOps.elem (fs[(i + j) / 2]).row rfl rfl rfl rfl rfl rfl rfl rfl rfl (by exact hz) (by exact hl) ?_
    repeat' first
      | refine WpA.seq ?_
      | refine WpA.region ?_
      | refine WpOps.op _ rfl rfl rfl rfl rfl ?_
      | refine WpOps.box _ rfl rfl rfl rfl rfl ?_
      | refine WpOps.alloc _ rfl rfl rfl rfl rfl rfl ?_
      | refine WpOps.store rfl rfl rfl rfl rfl rfl rfl rfl rfl rfl ?_
      | refine WpOps.skip rfl rfl rfl ?_
      | refine WpOps.build _ rfl rfl rfl rfl rfl ?_
      | refine WpOps.sh _ rfl rfl rfl rfl rfl ?_
      | (refine WpOps.call rfl rfl rfl rfl rfl (by exact FindCmp_A _ _ _) ?_; rintro _ _ ⟨rfl, rfl⟩)
      | refine WpOps.gsplit _ rfl rfl rfl (fun h => ?_) (fun h => ?_)
      | refine WpA.block ?_
      | refine WpA.exit ?_
      | refine WpOps.nil ?_
      | refine WpA.ret ?_
      | refine WpA.skip ?_
      | refine WpA.condT rfl ?_
      | refine WpA.condF rfl ?_
      | refine WpA.cond _ rfl (fun h => ?_) (fun h => ?_)
      | refine WpA.draw (by kernel_rfl) ?_
      | refine LexA.op _ rfl rfl rfl rfl rfl ?_
      | refine LexA.skip rfl rfl rfl ?_
      | refine LexA.build _ rfl rfl rfl rfl rfl ?_
      | refine LexA.sh _ rfl rfl rfl rfl rfl ?_
      | refine LexA.call rfl rfl rfl rfl rfl (by exact FindCmp_A _ _ _) ?_
      | refine LexA.gsplit _ rfl rfl rfl (fun h => ?_) (fun h => ?_)
      | refine LexA.nil ?_
    · refine ⟨((i + j) / 2 + 1, j), ⟨by simp only; omega, h2, fun k hk => ?_, h4⟩, by simp only; omega, ⟨rfl, rfl, rfl, rfl, congrArg (AV.int .i64) hw1, rfl, trivial⟩, rfl⟩
      rw [cmp_neg, ← nm_eq hm1] at h
      rcases Nat.lt_or_ge k ((i + j) / 2) with hk1 | hk1
      · exact lt_trans (hs _ _ hk1 hm1) h
      · have : k = (i + j) / 2 := by simp only at hk; omega
        rw [this]; exact h
    · refine ⟨(i, (i + j) / 2), ⟨by simp only; omega, by simp only; omega, h3, fun k hk1 hk2 => ?_⟩, by simp only; omega, ⟨rfl, rfl, rfl, rfl, rfl, congrArg (AV.int .i64) hmid, trivial⟩, rfl⟩
      rw [cmp_neg, ← nm_eq hm1] at h
      simp only at hk1
      rcases Nat.lt_or_ge ((i + j) / 2) k with hk3 | hk3
      · cases hq : lt (nm fs k) y with
        | false => rfl
        | true => rw [lt_trans (hs _ _ hk3 hk2) hq] at h; cases h
      · have : k = (i + j) / 2 := by omega
        rw [this]; exact h
  all_goals (try (cases h; done))
  · rename_i q0 q1 
    simp at q0
    have hij : i = j := by omega
    subst hij
    simp [rows_length] at q1
    refine WpOps.elem (fs[i]).row rfl rfl rfl rfl rfl rfl rfl rfl rfl (Int.natCast_nonneg _) (rows_get q1) ?_
    clear h
    repeat' first
      | refine WpA.seq ?_
      | refine WpA.region ?_
      | refine WpOps.op _ rfl rfl rfl rfl rfl ?_
      | refine WpOps.box _ rfl rfl rfl rfl rfl ?_
      | refine WpOps.alloc _ rfl rfl rfl rfl rfl rfl ?_
      | refine WpOps.store rfl rfl rfl rfl rfl rfl rfl rfl rfl rfl ?_
      | refine WpOps.skip rfl rfl rfl ?_
      | refine WpOps.build _ rfl rfl rfl rfl rfl ?_
      | refine WpOps.sh _ rfl rfl rfl rfl rfl ?_
      | (refine WpOps.call rfl rfl rfl rfl rfl (by exact FindCmp_A _ _ _) ?_; rintro _ _ ⟨rfl, rfl⟩)
      | refine WpOps.gsplit _ rfl rfl rfl (fun h => ?_) (fun h => ?_)
      | refine WpA.block ?_
      | refine WpA.exit ?_
      | refine WpOps.nil ?_
      | refine WpA.ret ?_
      | refine WpA.skip ?_
      | refine WpA.condT rfl ?_
      | refine WpA.condF rfl ?_
      | refine WpA.cond _ rfl (fun h => ?_) (fun h => ?_)
      | refine WpA.draw (by kernel_rfl) ?_
      | refine LexA.op _ rfl rfl rfl rfl rfl ?_
      | refine LexA.skip rfl rfl rfl ?_
      | refine LexA.build _ rfl rfl rfl rfl rfl ?_
      | refine LexA.sh _ rfl rfl rfl rfl rfl ?_
      | refine LexA.call rfl rfl rfl rfl rfl (by exact FindCmp_A _ _ _) ?_
      | refine LexA.gsplit _ rfl rfl rfl (fun h => ?_) (fun h => ?_)
      | refine LexA.nil ?_
    refine retK.ok' (.inr rfl) rfl rfl (by exact bd2 _ _ _ _) ⟨rfl, _, _, rfl, ?_, ?_⟩
    · intro hq
      have hq' : (cmpB (fs[i]).name y == 0) = true := hq
      rw [cmp_zero, ← nm_eq q1, beq_iff_eq] at hq'
      exact ⟨i, rfl, q1, hq'⟩
    · intro hq k hk
      have hq' : (cmpB (fs[i]).name y == 0) = false := hq
      rw [cmp_zero, ← nm_eq q1] at hq'
      rcases Nat.lt_trichotomy k i with h5 | h5 | h5
      · intro e
        have := h3 k h5
        rw [e, lt_irrefl] at this
        cases this
      · rw [h5]; simpa using hq'
      · intro e
        have h6 := hs i k h5 hk
        rw [e] at h6
        rw [h4 i (Nat.le_refl _) q1] at h6
        cases h6
  · rename_i q0
    simp at q0
    have hij : i = j := by omega
    subst hij
    simp [rows_length] at h
    refine retK.ok' (.inr rfl) rfl rfl (by exact bd2 _ _ _ _) ⟨rfl, _, _, rfl, ?_, ?_⟩
    · intro hq; cases hq
    · intro _ k hk e
      have := h3 k (by omega)
      rw [e, lt_irrefl] at this
      cases this
end Go.Gp.Try

/- The manifest's checks: Find, both; the law's own function. -/
namespace Go.Gp.Try
open Go.Proofs
set_option linter.unusedVariables false
set_option linter.unusedSimpArgs false
set_option maxHeartbeats 4000000

theorem in_A (m : Man) (y : List UInt8) (H : List AObj) (hb : m.fs.length ≤ 1000000000000000) :
    CallsA E 21 [m.av .no, .str y] H (fun x H' => H' = H ∧ ∃ p, x = .ret (.int .i64 p) ∧ ((∃ k : Nat, p = (k : Int) ∧ k < m.fs.length ∧ nm m.fs k = y) ∨ (p = -1 ∧ ∀ k, k < m.fs.length → nm m.fs k ≠ y))) := by
  refine .enter Try.func21 rfl rfl rfl 22 Try.ntmps21 (Nat.le_of_ble_eq_true rfl) ?_
  repeat' first
    | refine WpA.seq ?_
    | refine WpA.region ?_
    | refine WpOps.op _ rfl rfl rfl rfl rfl ?_
    | refine WpOps.box _ rfl rfl rfl rfl rfl ?_
    | refine WpOps.alloc _ rfl rfl rfl rfl rfl rfl ?_
    | refine WpOps.store rfl rfl rfl rfl rfl rfl rfl rfl rfl rfl ?_
    | refine WpOps.skip rfl rfl rfl ?_
    | refine WpOps.build _ rfl rfl rfl rfl rfl ?_
    | refine WpOps.sh _ rfl rfl rfl rfl rfl ?_
    | refine WpOps.gsplit _ rfl rfl rfl (fun h => ?_) (fun h => ?_)
    | refine WpA.block ?_
    | refine WpA.exit ?_
    | refine WpOps.nil ?_
    | refine WpA.ret ?_
    | refine WpA.skip ?_
    | refine WpA.condT rfl ?_
    | refine WpA.condF rfl ?_
    | refine WpA.cond _ rfl (fun h => ?_) (fun h => ?_)
    | refine WpA.draw (by kernel_rfl) ?_
    | refine LexA.op _ rfl rfl rfl rfl rfl ?_
    | refine LexA.skip rfl rfl rfl ?_
    | refine LexA.build _ rfl rfl rfl rfl rfl ?_
    | refine LexA.sh _ rfl rfl rfl rfl rfl ?_
    | refine LexA.gsplit _ rfl rfl rfl (fun h => ?_) (fun h => ?_)
    | refine LexA.nil ?_
  refine WpA.loopS (α := Nat) (fun i => [(2, .ptr H.length 0 0), (1, .str y), (5, .int .i64 i)]) (fun _ => H ++ [AObj.cells (m.cells .no)]) (fun i => i ≤ m.fs.length ∧ ∀ k, k < i → nm m.fs k ≠ y) (fun i => m.fs.length - i) 0 ⟨Nat.zero_le _, fun k h => by omega⟩ ⟨rfl, rfl, rfl, trivial⟩ rfl ?_
  rintro i ⟨hi, hu⟩
  repeat' first
    | refine WpA.seq ?_
    | refine WpA.region ?_
    | refine WpOps.op _ rfl rfl rfl rfl rfl ?_
    | refine WpOps.box _ rfl rfl rfl rfl rfl ?_
    | refine WpOps.alloc _ rfl rfl rfl rfl rfl rfl ?_
    | refine WpOps.store rfl rfl rfl rfl rfl rfl rfl rfl rfl rfl ?_
    | refine WpOps.skip rfl rfl rfl ?_
    | refine WpOps.build _ rfl rfl rfl rfl rfl ?_
    | refine WpOps.sh _ rfl rfl rfl rfl rfl ?_
    | refine WpOps.gsplit _ rfl rfl rfl (fun h => ?_) (fun h => ?_)
    | refine WpA.block ?_
    | refine WpA.exit ?_
    | refine WpOps.nil ?_
    | refine WpA.ret ?_
    | refine WpA.skip ?_
    | refine WpA.condT rfl ?_
    | refine WpA.condF rfl ?_
    | refine WpA.cond _ rfl (fun h => ?_) (fun h => ?_)
    | refine WpA.draw (by kernel_rfl) ?_
    | refine LexA.op _ rfl rfl rfl rfl rfl ?_
    | refine LexA.skip rfl rfl rfl ?_
    | refine LexA.build _ rfl rfl rfl rfl rfl ?_
    | refine LexA.sh _ rfl rfl rfl rfl rfl ?_
    | refine LexA.gsplit _ rfl rfl rfl (fun h => ?_) (fun h => ?_)
    | refine LexA.nil ?_
  · simp [rows_length] at h
    have hlt : i < m.fs.length := h
    clear h
    have hwi : IntKind.i64.wrap ((i : Int) + 1) = ((i + 1 : Nat) : Int) := wrap64 (by omega) (by omega)
    refine WpOps.elem (m.fs[i]).row rfl rfl rfl rfl rfl rfl rfl rfl rfl (Int.natCast_nonneg _) (rows_get hlt) ?_
    repeat' first
      | refine WpA.seq ?_
      | refine WpA.region ?_
      | refine WpOps.op _ rfl rfl rfl rfl rfl ?_
      | refine WpOps.box _ rfl rfl rfl rfl rfl ?_
      | refine WpOps.alloc _ rfl rfl rfl rfl rfl rfl ?_
      | refine WpOps.store rfl rfl rfl rfl rfl rfl rfl rfl rfl rfl ?_
      | refine WpOps.skip rfl rfl rfl ?_
      | refine WpOps.build _ rfl rfl rfl rfl rfl ?_
      | refine WpOps.sh _ rfl rfl rfl rfl rfl ?_
      | refine WpOps.gsplit _ rfl rfl rfl (fun h => ?_) (fun h => ?_)
      | refine WpA.block ?_
      | refine WpA.exit ?_
      | refine WpOps.nil ?_
      | refine WpA.ret ?_
      | refine WpA.skip ?_
      | refine WpA.condT rfl ?_
      | refine WpA.condF rfl ?_
      | refine WpA.cond _ rfl (fun h => ?_) (fun h => ?_)
      | refine WpA.draw (by kernel_rfl) ?_
      | refine LexA.op _ rfl rfl rfl rfl rfl ?_
      | refine LexA.skip rfl rfl rfl ?_
      | refine LexA.build _ rfl rfl rfl rfl rfl ?_
      | refine LexA.sh _ rfl rfl rfl rfl rfl ?_
      | refine LexA.gsplit _ rfl rfl rfl (fun h => ?_) (fun h => ?_)
      | refine LexA.nil ?_
    · refine retK.ok' (.inr rfl) rfl rfl .int ⟨rfl, _, rfl, .inl ⟨i, rfl, hlt, ?_⟩⟩
      rw [nm_eq hlt]
      simpa using h
    · refine ⟨i + 1, ⟨hlt, fun k hk => ?_⟩, by omega, ⟨rfl, rfl, congrArg (AV.int .i64) hwi, trivial⟩, rfl⟩
      rcases Nat.lt_or_ge k i with h1 | h1
      · exact hu k h1
      · have : k = i := by omega
        subst this
        rw [nm_eq hlt]
        simpa using h
  · simp [rows_length] at h
    exact retK.ok' (.inr rfl) rfl rfl .int ⟨rfl, _, rfl, .inr ⟨rfl, fun k hk => hu k (by omega)⟩⟩

def zeroHash : List AV := List.replicate 32 (.int .u8 0)
def seek (m : Man) (y : List UInt8) : Option File := m.fs.find? (·.name == y)
def findByte (m : Man) (y : List UInt8) : Nat → Int := if check m = 0 then match seek m y with | some f => fun i => (f.h i).toNat | none => fun _ => 0 else fun _ => 0
def findHash (m : Man) (y : List UInt8) : List AV := (List.range 32).map fun i => .int .u8 (findByte m y i)
def findCode (m : Man) (y : List UInt8) : Int := if check m = 0 then match seek m y with | some _ => 0 | none => 6 else check m

theorem check_ok {m : Man} (h : check m = 0) : Sorted m.fs := by
  refine sorted_of ?_
  unfold check at h
  split at h
  · cases h
  · split at h
    · rename_i h1
      rw [manOk, Bool.and_eq_true] at h1
      exact h1.2
    · cases h

theorem seek_some {m : Man} {y : List UInt8} {k : Nat} (hs : Sorted m.fs) (hk : k < m.fs.length) (h : nm m.fs k = y) : seek m y = some m.fs[k] := by
  unfold seek
  rw [List.find?_eq_some_iff_getElem]
  refine ⟨by rw [← nm_eq hk, h]; simp, k, hk, rfl, fun j hj => ?_⟩
  rw [← nm_eq (by omega)]
  have := hs j k hj hk
  rw [h] at this
  simp only [Bool.not_eq_true', beq_eq_false_iff_ne, ne_eq]
  intro e
  rw [e, lt_irrefl] at this
  cases this

theorem seek_none {m : Man} {y : List UInt8} (h : ∀ k, k < m.fs.length → nm m.fs k ≠ y) : seek m y = none := by
  unfold seek
  rw [List.find?_eq_none]
  intro f hf
  obtain ⟨k, hk⟩ := List.getElem?_of_mem hf
  obtain ⟨hlt, rfl⟩ := List.getElem?_eq_some_iff.1 hk
  have := h k hlt
  rw [nm_eq hlt] at this
  simpa using this

theorem bdFind (n : Nat) (f : File) (a : Int) : Bd n (.tup [.agg f.hash, .int .i64 a]) := .tup fun e he => by
  simp only [List.mem_cons, List.not_mem_nil, or_false] at he
  rcases he with rfl | rfl
  · refine .agg fun e he => ?_
    obtain ⟨v, rfl⟩ := hash_int f e he
    exact .int
  · exact .int
theorem bdZero (n : Nat) (a : Int) : Bd n (.tup [.agg zeroHash, .int .i64 a]) := .tup fun e he => by
  simp only [List.mem_cons, List.not_mem_nil, or_false] at he
  rcases he with rfl | rfl
  · refine .agg fun e he => ?_
    obtain ⟨_, rfl⟩ := List.mem_replicate.1 he
    exact .int
  · exact .int

def findAV (m : Man) (y : List UInt8) : AV := .tup [.agg (findHash m y), .int .i64 (findCode m y)]

theorem Find_A (m : Man) (y : List UInt8) (H : List AObj) (hb : m.fs.length ≤ 1000000000000000) : CallsA E 7 [m.av .no, .str y] H (Is H (findAV m y)) := by
  refine .enter Try.func7 rfl rfl rfl 31 Try.ntmps7 (Nat.le_of_ble_eq_true rfl) ?_
  repeat' first
    | refine WpA.seq ?_
    | refine WpA.region ?_
    | refine WpOps.op _ rfl rfl rfl rfl rfl ?_
    | refine WpOps.box _ rfl rfl rfl rfl rfl ?_
    | refine WpOps.alloc _ rfl rfl rfl rfl rfl rfl ?_
    | refine WpOps.store rfl rfl rfl rfl rfl rfl rfl rfl rfl rfl ?_
    | refine WpOps.skip rfl rfl rfl ?_
    | refine WpOps.build _ rfl rfl rfl rfl rfl ?_
    | refine WpOps.sh _ rfl rfl rfl rfl rfl ?_
    | (refine WpOps.call rfl rfl rfl rfl rfl (by exact Check_A _ _ hb) ?_; rintro _ _ ⟨rfl, rfl⟩)
    | refine WpOps.gsplit _ rfl rfl rfl (fun h => ?_) (fun h => ?_)
    | refine WpA.block ?_
    | refine WpA.exit ?_
    | refine WpOps.nil ?_
    | refine WpA.ret ?_
    | refine WpA.skip ?_
    | refine WpA.condT rfl ?_
    | refine WpA.condF rfl ?_
    | refine WpA.cond _ rfl (fun h => ?_) (fun h => ?_)
    | refine WpA.draw (by kernel_rfl) ?_
    | refine LexA.op _ rfl rfl rfl rfl rfl ?_
    | refine LexA.skip rfl rfl rfl ?_
    | refine LexA.build _ rfl rfl rfl rfl rfl ?_
    | refine LexA.sh _ rfl rfl rfl rfl rfl ?_
    | refine LexA.call rfl rfl rfl rfl rfl (by exact Check_A _ _ hb) ?_
    | refine LexA.gsplit _ rfl rfl rfl (fun h => ?_) (fun h => ?_)
    | refine LexA.nil ?_
  · have hc : check m ≠ 0 := by simpa [bne] using h
    have e : findAV m y = .tup [.agg zeroHash, .int .i64 (check m)] := by rw [findAV, findHash, findCode, findByte, if_neg hc, if_neg hc]; rfl
    rw [e]
    exact retK.ok rfl rfl rfl (bdZero _ _)
  · have hc : check m = 0 := by simpa [bne] using h
    have hs := check_ok hc
    refine WpOps.call rfl rfl rfl rfl rfl (by exact Search_A _ _ _ hb hs) ?_
    rintro _ _ ⟨rfl, p, b, rfl, hf1, hf2⟩
    dsimp only
    repeat' first
      | refine WpA.seq ?_
      | refine WpA.region ?_
      | refine WpOps.op _ rfl rfl rfl rfl rfl ?_
      | refine WpOps.box _ rfl rfl rfl rfl rfl ?_
      | refine WpOps.alloc _ rfl rfl rfl rfl rfl rfl ?_
      | refine WpOps.store rfl rfl rfl rfl rfl rfl rfl rfl rfl rfl ?_
      | refine WpOps.skip rfl rfl rfl ?_
      | refine WpOps.build _ rfl rfl rfl rfl rfl ?_
      | refine WpOps.sh _ rfl rfl rfl rfl rfl ?_
      | refine WpOps.gsplit _ rfl rfl rfl (fun h => ?_) (fun h => ?_)
      | refine WpA.block ?_
      | refine WpA.exit ?_
      | refine WpOps.nil ?_
      | refine WpA.ret ?_
      | refine WpA.skip ?_
      | refine WpA.condT rfl ?_
      | refine WpA.condF rfl ?_
      | refine WpA.cond _ rfl (fun h => ?_) (fun h => ?_)
      | refine WpA.draw (by kernel_rfl) ?_
      | refine LexA.op _ rfl rfl rfl rfl rfl ?_
      | refine LexA.skip rfl rfl rfl ?_
      | refine LexA.build _ rfl rfl rfl rfl rfl ?_
      | refine LexA.sh _ rfl rfl rfl rfl rfl ?_
      | refine LexA.gsplit _ rfl rfl rfl (fun h => ?_) (fun h => ?_)
      | refine LexA.nil ?_
    · rw [Bool.not_eq_true'] at h
      subst h
      have e : findAV m y = .tup [.agg zeroHash, .int .i64 6] := by rw [findAV, findHash, findCode, findByte, if_pos hc, if_pos hc, seek_none (hf2 rfl)]; rfl
      rw [e]
      exact retK.ok rfl rfl rfl (bdZero _ _)
    · rw [Bool.not_eq_false'] at h
      subst h
      obtain ⟨k, rfl, hk1, hk2⟩ := hf1 rfl
      have e : findAV m y = .tup [.agg (m.fs[k]).hash, .int .i64 0] := by rw [findAV, findHash, findCode, findByte, if_pos hc, if_pos hc, seek_some hs hk1 hk2]; rfl
      rw [e]
      refine WpOps.elem (m.fs[k]).row rfl rfl rfl rfl rfl rfl rfl rfl rfl (Int.natCast_nonneg _) (rows_get hk1) ?_
      repeat' first
        | refine WpA.seq ?_
        | refine WpA.region ?_
        | refine WpOps.op _ rfl rfl rfl rfl rfl ?_
        | refine WpOps.box _ rfl rfl rfl rfl rfl ?_
        | refine WpOps.alloc _ rfl rfl rfl rfl rfl rfl ?_
        | refine WpOps.store rfl rfl rfl rfl rfl rfl rfl rfl rfl rfl ?_
        | refine WpOps.skip rfl rfl rfl ?_
        | refine WpOps.build _ rfl rfl rfl rfl rfl ?_
        | refine WpOps.sh _ rfl rfl rfl rfl rfl ?_
        | refine WpOps.gsplit _ rfl rfl rfl (fun h => ?_) (fun h => ?_)
        | refine WpA.block ?_
        | refine WpA.exit ?_
        | refine WpOps.nil ?_
        | refine WpA.ret ?_
        | refine WpA.skip ?_
        | refine WpA.condT rfl ?_
        | refine WpA.condF rfl ?_
        | refine WpA.cond _ rfl (fun h => ?_) (fun h => ?_)
        | refine WpA.draw (by kernel_rfl) ?_
        | refine LexA.op _ rfl rfl rfl rfl rfl ?_
        | refine LexA.skip rfl rfl rfl ?_
        | refine LexA.build _ rfl rfl rfl rfl rfl ?_
        | refine LexA.sh _ rfl rfl rfl rfl rfl ?_
        | refine LexA.gsplit _ rfl rfl rfl (fun h => ?_) (fun h => ?_)
        | refine LexA.nil ?_
      exact retK.ok rfl rfl rfl (bdFind _ _ _)

theorem refFind_A (m : Man) (y : List UInt8) (H : List AObj) (hb : m.fs.length ≤ 1000000000000000) : CallsA E 8 [m.av .no, .str y] H (Is H (findAV m y)) := by
  refine .enter Try.func8 rfl rfl rfl 26 Try.ntmps8 (Nat.le_of_ble_eq_true rfl) ?_
  repeat' first
    | refine WpA.seq ?_
    | refine WpA.region ?_
    | refine WpOps.op _ rfl rfl rfl rfl rfl ?_
    | refine WpOps.box _ rfl rfl rfl rfl rfl ?_
    | refine WpOps.alloc _ rfl rfl rfl rfl rfl rfl ?_
    | refine WpOps.store rfl rfl rfl rfl rfl rfl rfl rfl rfl rfl ?_
    | refine WpOps.skip rfl rfl rfl ?_
    | refine WpOps.build _ rfl rfl rfl rfl rfl ?_
    | refine WpOps.sh _ rfl rfl rfl rfl rfl ?_
    | (refine WpOps.call rfl rfl rfl rfl rfl (by exact refCheck_A _ _ hb) ?_; rintro _ _ ⟨rfl, rfl⟩)
    | refine WpOps.gsplit _ rfl rfl rfl (fun h => ?_) (fun h => ?_)
    | refine WpA.block ?_
    | refine WpA.exit ?_
    | refine WpOps.nil ?_
    | refine WpA.ret ?_
    | refine WpA.skip ?_
    | refine WpA.condT rfl ?_
    | refine WpA.condF rfl ?_
    | refine WpA.cond _ rfl (fun h => ?_) (fun h => ?_)
    | refine WpA.draw (by kernel_rfl) ?_
    | refine LexA.op _ rfl rfl rfl rfl rfl ?_
    | refine LexA.skip rfl rfl rfl ?_
    | refine LexA.build _ rfl rfl rfl rfl rfl ?_
    | refine LexA.sh _ rfl rfl rfl rfl rfl ?_
    | refine LexA.call rfl rfl rfl rfl rfl (by exact refCheck_A _ _ hb) ?_
    | refine LexA.gsplit _ rfl rfl rfl (fun h => ?_) (fun h => ?_)
    | refine LexA.nil ?_
  · have hc : check m ≠ 0 := by simpa [bne] using h
    have e : findAV m y = .tup [.agg zeroHash, .int .i64 (check m)] := by rw [findAV, findHash, findCode, findByte, if_neg hc, if_neg hc]; rfl
    rw [e]
    exact retK.ok rfl rfl rfl (bdZero _ _)
  · have hc : check m = 0 := by simpa [bne] using h
    have hs := check_ok hc
    refine WpOps.call rfl rfl rfl rfl rfl (by exact in_A _ _ _ hb) ?_
    rintro _ _ ⟨rfl, p, rfl, hf⟩
    dsimp only
    repeat' first
      | refine WpA.seq ?_
      | refine WpA.region ?_
      | refine WpOps.op _ rfl rfl rfl rfl rfl ?_
      | refine WpOps.box _ rfl rfl rfl rfl rfl ?_
      | refine WpOps.alloc _ rfl rfl rfl rfl rfl rfl ?_
      | refine WpOps.store rfl rfl rfl rfl rfl rfl rfl rfl rfl rfl ?_
      | refine WpOps.skip rfl rfl rfl ?_
      | refine WpOps.build _ rfl rfl rfl rfl rfl ?_
      | refine WpOps.sh _ rfl rfl rfl rfl rfl ?_
      | refine WpOps.gsplit _ rfl rfl rfl (fun h => ?_) (fun h => ?_)
      | refine WpA.block ?_
      | refine WpA.exit ?_
      | refine WpOps.nil ?_
      | refine WpA.ret ?_
      | refine WpA.skip ?_
      | refine WpA.condT rfl ?_
      | refine WpA.condF rfl ?_
      | refine WpA.cond _ rfl (fun h => ?_) (fun h => ?_)
      | refine WpA.draw (by kernel_rfl) ?_
      | refine LexA.op _ rfl rfl rfl rfl rfl ?_
      | refine LexA.skip rfl rfl rfl ?_
      | refine LexA.build _ rfl rfl rfl rfl rfl ?_
      | refine LexA.sh _ rfl rfl rfl rfl rfl ?_
      | refine LexA.gsplit _ rfl rfl rfl (fun h => ?_) (fun h => ?_)
      | refine LexA.nil ?_
    · rw [decide_eq_true_eq] at h
      have hn : ∀ k, k < m.fs.length → nm m.fs k ≠ y := by
        rcases hf with ⟨k, rfl, _⟩ | ⟨_, hf⟩
        · omega
        · exact hf
      have e : findAV m y = .tup [.agg zeroHash, .int .i64 6] := by rw [findAV, findHash, findCode, findByte, if_pos hc, if_pos hc, seek_none hn]; rfl
      rw [e]
      exact retK.ok rfl rfl rfl (bdZero _ _)
    · rw [decide_eq_false_iff_not] at h
      obtain ⟨k, rfl, hk1, hk2⟩ : ∃ k : Nat, p = (k : Int) ∧ k < m.fs.length ∧ nm m.fs k = y := by
        rcases hf with hf | ⟨hf, _⟩
        · exact hf
        · omega
      have e : findAV m y = .tup [.agg (m.fs[k]).hash, .int .i64 0] := by rw [findAV, findHash, findCode, findByte, if_pos hc, if_pos hc, seek_some hs hk1 hk2]; rfl
      rw [e]
      refine WpOps.elem (m.fs[k]).row rfl rfl rfl rfl rfl rfl rfl rfl rfl (Int.natCast_nonneg _) (rows_get hk1) ?_
      repeat' first
        | refine WpA.seq ?_
        | refine WpA.region ?_
        | refine WpOps.op _ rfl rfl rfl rfl rfl ?_
        | refine WpOps.box _ rfl rfl rfl rfl rfl ?_
        | refine WpOps.alloc _ rfl rfl rfl rfl rfl rfl ?_
        | refine WpOps.store rfl rfl rfl rfl rfl rfl rfl rfl rfl rfl ?_
        | refine WpOps.skip rfl rfl rfl ?_
        | refine WpOps.build _ rfl rfl rfl rfl rfl ?_
        | refine WpOps.sh _ rfl rfl rfl rfl rfl ?_
        | refine WpOps.gsplit _ rfl rfl rfl (fun h => ?_) (fun h => ?_)
        | refine WpA.block ?_
        | refine WpA.exit ?_
        | refine WpOps.nil ?_
        | refine WpA.ret ?_
        | refine WpA.skip ?_
        | refine WpA.condT rfl ?_
        | refine WpA.condF rfl ?_
        | refine WpA.cond _ rfl (fun h => ?_) (fun h => ?_)
        | refine WpA.draw (by kernel_rfl) ?_
        | refine LexA.op _ rfl rfl rfl rfl rfl ?_
        | refine LexA.skip rfl rfl rfl ?_
        | refine LexA.build _ rfl rfl rfl rfl rfl ?_
        | refine LexA.sh _ rfl rfl rfl rfl rfl ?_
        | refine LexA.gsplit _ rfl rfl rfl (fun h => ?_) (fun h => ?_)
        | refine LexA.nil ?_
      exact retK.ok rfl rfl rfl (bdFind _ _ _)
end Go.Gp.Try
