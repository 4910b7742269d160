/- Part of a proof: GhQ3, GhQ4, GhQ5, GhQ6 -/
import Derived.Test.YtlmjiblfmhaicaaGreatDoorK13
import Derived.Test.YtlmjiblfmhaicaaGreatDoorK23
import Derived.Laws.Externs

set_option linter.unusedSectionVars false

/- Spans: the walks. -/
namespace Go.Gp.Tryz
variable [Inhabited MaxLenT]
open Go.Proofs
set_option linter.unusedVariables false
set_option linter.unusedSimpArgs false
set_option linter.unusedSectionVars false
set_option maxHeartbeats 4000000
set_option maxRecDepth 100000

structure Sp where
  f : Ad
  t : Ad
def Sp.cells (s : Sp) : List AV := [.int .u64 (s.f.hi : Int), .int .u64 (s.f.lo : Int), .int .u64 (s.t.hi : Int), .int .u64 (s.t.lo : Int)]
def Sp.ok (s : Sp) : Prop := s.f.ok ∧ s.t.ok
def ofVal (v : Nat) : Ad := ⟨v / 18446744073709551616, v % 18446744073709551616⟩
theorem ofVal_val (v : Nat) : (ofVal v).val = v := by simp only [ofVal, Ad.val]; omega
theorem ofVal_ok {v : Nat} (h : v < 340282366920938463463374607431768211456) : (ofVal v).ok := by
  simp only [ofVal, Ad.ok]; omega
theorem val_lt {a : Ad} (h : a.ok) : a.val < 340282366920938463463374607431768211456 := by
  obtain ⟨h1, h2⟩ := h
  simp only [Ad.val]; omega

theorem add64_A (x y c : Nat) (hx : x < 18446744073709551616) (hy : y < 18446744073709551616) (hc : c ≤ 1) (H : List AObj) :
    CallsA E 119 [.int .u64 (x : Int), .int .u64 (y : Int), .int .u64 (c : Int)] H (Is H (.tup [.int .u64 (((x + y + c) % 18446744073709551616 : Nat) : Int), .int .u64 (((x + y + c) / 18446744073709551616 : Nat) : Int)])) := by
  refine ⟨?_⟩
  intro cf vs e1 e2 e3
  have hv : vs = [.int .u64 (x : Int), .int .u64 (y : Int), .int .u64 (c : Int)] := by
    match vs, e3 with
    | [a, b, d], h =>
      have h0 := h.2 0 _ a rfl rfl
      have h1 := h.2 1 _ b rfl rfl
      have h2 := h.2 2 _ d rfl rfl
      cases h0; cases h1; cases h2
      rfl
    | [], h => have := h.1; simp at this
    | [_], h => have := h.1; simp at this
    | [_, _], h => have := h.1; simp at this
    | _ :: _ :: _ :: _ :: _, h => have := h.1; simp at this
  subst hv
  have hrun : (callFunc 119 #[.int .u64 (x : Int), .int .u64 (y : Int), .int .u64 (c : Int)]).run E.P cf.w =
      .ok (.value (.tuple #[.int .u64 (((x + y + c) % 18446744073709551616 : Nat) : Int), .int .u64 (((x + y + c) / 18446744073709551616 : Nat) : Int)])) cf.w := by
    show (callFunc _ _).run Tryz.prog cf.w = _
    rw [run_callFunc_extern Tryz.func119 (by kernel_rfl) (by kernel_rfl) (by kernel_rfl) (e := add64Entry) (by kernel_rfl), run_add64 x y c (by omega) (by omega) (by omega) (by omega)]
    simp only [Result.andThen]
    congr 5 <;> omega
  show UponC _ _ ((callFunc _ _).run E.P cf.w)
  rw [show ([.int .u64 (x : Int), .int .u64 (y : Int), .int .u64 (c : Int)] : List Value).toArray = #[.int .u64 (x : Int), .int .u64 (y : Int), .int .u64 (c : Int)] from rfl, hrun]
  refine ⟨cf.ι, cf.H, .ret _, Ext.refl _, e2, ?_, ⟨e1, rfl⟩⟩
  exact .tup [.int .u64 _, .int .u64 _] rfl (fun i a v h1 h2 => by
    match i with
    | 0 => cases h1; cases h2; exact .int
    | 1 => cases h1; cases h2; exact .int
    | _ + 2 => cases h1)
def nextAV (a : Ad) : AV := if a.val + 1 < 340282366920938463463374607431768211456 then .tup [.agg (ofVal (a.val + 1)).cells, .bool true] else .tup [.agg [.int .u64 0, .int .u64 0], .bool false]
theorem ad_bd {n : Nat} (a : Ad) (b : Bool) : Bd n (.tup [.agg a.cells, .bool b]) := .tup fun x hx => by
  simp only [List.mem_cons, List.not_mem_nil, or_false] at hx
  rcases hx with rfl | rfl
  · refine .agg fun y hy => ?_
    simp only [Ad.cells, List.mem_cons, List.not_mem_nil, or_false] at hy
    rcases hy with rfl | rfl <;> exact .int
  · exact .bool
theorem next_plain (ah al : Nat) (h1 : ah < 18446744073709551616) (h2 : al < 18446744073709551616) (x1 c1 x2 c2 : Nat) (hx1 : x1 = (al + 1 + 0) % 18446744073709551616) (hc1 : c1 = (al + 1 + 0) / 18446744073709551616)
    (hx2 : x2 = (ah + 0 + c1) % 18446744073709551616) (hc2 : c2 = (ah + 0 + c1) / 18446744073709551616) :
    (c2 = 0 ∨ c2 = 1) ∧ c1 ≤ 1 ∧ (c2 = 0 → ah * 18446744073709551616 + al + 1 < 340282366920938463463374607431768211456 ∧ (ah * 18446744073709551616 + al + 1) / 18446744073709551616 = x2 ∧ (ah * 18446744073709551616 + al + 1) % 18446744073709551616 = x1) ∧ (c2 = 1 → ¬ ah * 18446744073709551616 + al + 1 < 340282366920938463463374607431768211456) := by
  omega
theorem nextAV_some {a : Ad} {x1 x2 : Nat} (h : a.val + 1 < 340282366920938463463374607431768211456) (h2 : (a.val + 1) / 18446744073709551616 = x2) (h1 : (a.val + 1) % 18446744073709551616 = x1) : nextAV a = .tup [.agg (Ad.cells ⟨x2, x1⟩), .bool true] := by
  rw [nextAV, if_pos h, ofVal, h1, h2]
theorem nextAV_none {a : Ad} (h : ¬ a.val + 1 < 340282366920938463463374607431768211456) : nextAV a = .tup [.agg [.int .u64 0, .int .u64 0], .bool false] := by
  rw [nextAV, if_neg h]
theorem okAd6 (a : Ad) : okAd 6 a = true := by rw [okAd, okAdI]; rfl
theorem next6_W (ah al x1 c1 x2 c2 : Nat) (hc : c2 = 0 ∨ c2 = 1) (H : List AObj) (hA1 : ∀ X, CallsA E 119 [.int .u64 (al : Int), .int .u64 ((1 : Nat) : Int), .int .u64 ((0 : Nat) : Int)] X (Is X (.tup [.int .u64 (x1 : Int), .int .u64 (c1 : Int)])))
    (hA2 : ∀ X, CallsA E 119 [.int .u64 (ah : Int), .int .u64 ((0 : Nat) : Int), .int .u64 (c1 : Int)] X (Is X (.tup [.int .u64 (x2 : Int), .int .u64 (c2 : Int)]))) :
    CallsA E 99 [.int .u8 6, .agg (Ad.cells ⟨ah, al⟩)] H (Is H (if c2 = 0 then .tup [.agg (Ad.cells ⟨x2, x1⟩), .bool true] else .tup [.agg [.int .u64 0, .int .u64 0], .bool false])) := by
  have hC : ∀ (x : Ad) X, CallsA E 118 [.int .u8 6, .agg x.cells] X (Is X (.bool true)) := fun x X => by
    have := checkAddr_A 6 x X
    rwa [okAd6] at this
  have hCa := fun X => hC ⟨ah, al⟩ X
  have hCb := fun X => hC ⟨x2, x1⟩ X
  clear hC
  refine .enter Tryz.func99 rfl rfl rfl 43 Tryz.ntmps99 (Nat.le_of_ble_eq_true rfl) ?_
  rcases hc with rfl | rfl
  · rw [if_pos rfl]
    repeat' first
      | refine WpA.seq ?_
      | refine WpA.region ?_
      | refine WpOps.op _ rfl rfl rfl rfl rfl ?_
      | refine WpOps.box _ rfl rfl rfl rfl rfl ?_
      | refine WpOps.alloc _ rfl rfl rfl rfl rfl rfl ?_
      | refine WpOps.store rfl rfl rfl rfl rfl rfl rfl rfl rfl rfl ?_
      | refine WpOps.build _ rfl rfl rfl rfl rfl ?_
      | (refine WpOps.call rfl rfl rfl rfl rfl (by exact hA1 _) ?_; rintro _ _ ⟨rfl, rfl⟩)
      | (refine WpOps.call rfl rfl rfl rfl rfl (by exact hA2 _) ?_; rintro _ _ ⟨rfl, rfl⟩)
      | (refine WpOps.call rfl rfl rfl rfl rfl (by exact hCa _) ?_; rintro _ _ ⟨rfl, rfl⟩)
      | (refine WpOps.call rfl rfl rfl rfl rfl (by exact hCb _) ?_; rintro _ _ ⟨rfl, rfl⟩)
      | refine WpOps.nil ?_
      | refine WpA.ret ?_
      | refine WpA.skip ?_
      | refine WpA.condF rfl ?_
    all_goals first
      | exact retK.ok («as» := [.agg [.int .u64 (x2 : Int), .int .u64 (x1 : Int)], .bool true]) rfl rfl rfl (ad_bd ⟨x2, x1⟩ _)
      | (exfalso; revert h; decide)
  · rw [if_neg (by decide)]
    repeat' first
      | refine WpA.seq ?_
      | refine WpA.region ?_
      | refine WpOps.op _ rfl rfl rfl rfl rfl ?_
      | refine WpOps.box _ rfl rfl rfl rfl rfl ?_
      | refine WpOps.alloc _ rfl rfl rfl rfl rfl rfl ?_
      | refine WpOps.store rfl rfl rfl rfl rfl rfl rfl rfl rfl rfl ?_
      | refine WpOps.build _ rfl rfl rfl rfl rfl ?_
      | (refine WpOps.call rfl rfl rfl rfl rfl (by exact hA1 _) ?_; rintro _ _ ⟨rfl, rfl⟩)
      | (refine WpOps.call rfl rfl rfl rfl rfl (by exact hA2 _) ?_; rintro _ _ ⟨rfl, rfl⟩)
      | (refine WpOps.call rfl rfl rfl rfl rfl (by exact hCa _) ?_; rintro _ _ ⟨rfl, rfl⟩)
      | (refine WpOps.call rfl rfl rfl rfl rfl (by exact hCb _) ?_; rintro _ _ ⟨rfl, rfl⟩)
      | refine WpOps.nil ?_
      | refine WpA.ret ?_
      | refine WpA.condT rfl ?_
    all_goals first
      | exact retK.ok («as» := [.agg [.int .u64 0, .int .u64 0], .bool false]) rfl rfl rfl (ad_bd ⟨0, 0⟩ _)
      | (exfalso; revert h; decide)
theorem next6_A (a : Ad) (ha : a.ok) (H : List AObj) : CallsA E 99 [.int .u8 6, .agg a.cells] H (Is H (nextAV a)) := by
  obtain ⟨ah, al⟩ := a
  obtain ⟨h1, h2⟩ := ha
  dsimp only at h1 h2
  obtain ⟨x1, hx1⟩ : ∃ x1, x1 = (al + 1 + 0) % 18446744073709551616 := ⟨_, rfl⟩
  obtain ⟨c1, hc1⟩ : ∃ c1, c1 = (al + 1 + 0) / 18446744073709551616 := ⟨_, rfl⟩
  obtain ⟨x2, hx2⟩ : ∃ x2, x2 = (ah + 0 + c1) % 18446744073709551616 := ⟨_, rfl⟩
  obtain ⟨c2, hc2⟩ : ∃ c2, c2 = (ah + 0 + c1) / 18446744073709551616 := ⟨_, rfl⟩
  obtain ⟨g0, g1, g2, g3⟩ := next_plain ah al h1 h2 x1 c1 x2 c2 hx1 hc1 hx2 hc2
  have hA1 := fun X => add64_A al 1 0 h2 (by omega) (by omega) X
  have hA2 := fun X => add64_A ah 0 c1 h1 (by omega) g1 X
  rw [← hx1, ← hc1] at hA1
  rw [← hx2, ← hc2] at hA2
  have := next6_W ah al x1 c1 x2 c2 g0 H hA1 hA2
  rcases g0 with h | h
  · obtain ⟨k1, k2, k3⟩ := g2 h
    rw [if_pos h] at this
    rw [nextAV_some (a := ⟨ah, al⟩) k1 k2 k3]
    exact this
  · rw [if_neg (by omega)] at this
    rw [nextAV_none (a := ⟨ah, al⟩) (g3 h)]
    exact this
def afterB (a b : Ad) : Bool := decide (b.val + 1 < a.val)
theorem after_W (a b n : Ad) (q : Int) (is : Bool) (H : List AObj) (hN : ∀ X, CallsA E 99 [.int .u8 6, .agg b.cells] X (Is X (.tup [.agg n.cells, .bool is]))) (hM : ∀ X, CallsA E 100 [.agg a.cells, .agg n.cells] X (Is X (.int .i64 q))) :
    CallsA E 76 [.agg a.cells, .agg b.cells] H (Is H (.bool (is && decide (q > 0)))) := by
  refine .enter Tryz.func76 rfl rfl rfl 19 Tryz.ntmps76 (Nat.le_of_ble_eq_true rfl) ?_
  cases is with
  | true =>
    repeat' first
      | refine WpA.seq ?_
      | refine WpA.region ?_
      | refine WpOps.op _ rfl rfl rfl rfl rfl ?_
      | refine WpOps.box _ rfl rfl rfl rfl rfl ?_
      | refine WpOps.alloc _ rfl rfl rfl rfl rfl rfl ?_
      | refine WpOps.store rfl rfl rfl rfl rfl rfl rfl rfl rfl rfl ?_
      | (refine WpOps.call rfl rfl rfl rfl rfl (by exact hN _) ?_; rintro _ _ ⟨rfl, rfl⟩)
      | (refine WpOps.call rfl rfl rfl rfl rfl (by exact hM _) ?_; rintro _ _ ⟨rfl, rfl⟩)
      | refine WpOps.nil ?_
      | refine WpA.ret ?_
    all_goals first
      | exact retK.ok («as» := [.bool (decide (q > 0))]) rfl rfl rfl .bool
      | cases h
  | false =>
    repeat' first
      | refine WpA.seq ?_
      | refine WpA.region ?_
      | refine WpOps.op _ rfl rfl rfl rfl rfl ?_
      | refine WpOps.box _ rfl rfl rfl rfl rfl ?_
      | refine WpOps.alloc _ rfl rfl rfl rfl rfl rfl ?_
      | refine WpOps.store rfl rfl rfl rfl rfl rfl rfl rfl rfl rfl ?_
      | refine WpOps.skip rfl rfl rfl ?_
      | (refine WpOps.call rfl rfl rfl rfl rfl (by exact hN _) ?_; rintro _ _ ⟨rfl, rfl⟩)
      | refine WpOps.nil ?_
      | refine WpA.ret ?_
    all_goals first
      | exact retK.ok («as» := [.bool false]) rfl rfl rfl .bool
      | cases h
theorem after_plain {a b n : Nat} (h : n = b + 1) : decide (b + 1 < a) = (true && decide (cmpI a n > 0)) := by
  rw [Bool.true_and, decide_eq_decide, h]
  unfold cmpI
  split <;> (try split) <;> omega
theorem after_A (a b : Ad) (ha : a.ok) (hb : b.ok) (H : List AObj) : CallsA E 76 [.agg a.cells, .agg b.cells] H (Is H (.bool (afterB a b))) := by
  have hN := fun X => next6_A b hb X
  by_cases h : b.val + 1 < 340282366920938463463374607431768211456
  · have hM := fun X => cmpAd_A a (ofVal (b.val + 1)) X
    rw [cmpAd_val ha (ofVal_ok h)] at hM
    have hr := after_plain (a := a.val) (ofVal_val (b.val + 1))
    rw [afterB, hr]
    refine after_W a b (ofVal (b.val + 1)) _ true H (fun X => ?_) hM
    have := hN X
    rwa [nextAV, if_pos h] at this
  · have hva := val_lt ha
    have hr : decide (b.val + 1 < a.val) = (false && decide (cmpAd a ⟨0, 0⟩ > 0)) := by
      rw [Bool.false_and]
      exact decide_eq_false (by omega)
    rw [afterB, hr]
    clear hva hr
    refine after_W a b ⟨0, 0⟩ (cmpAd a ⟨0, 0⟩) false H (fun X => ?_) (fun X => cmpAd_A a _ X)
    have := hN X
    rw [nextAV_none h] at this
    exact this
def okSp (fam : Int) (s : Sp) : Bool := okAd fam s.f && okAd fam s.t && decide (cmpAd s.f s.t ≤ 0)
theorem spanCheck_A (fam : Int) (hf : fam = 4 ∨ fam = 6) (s : Sp) (H : List AObj) : CallsA E 98 [.int .u8 fam, .agg s.cells] H (Is H (.int .i64 (if okSp fam s then 0 else 8))) := by
  have h1 := fun X => checkAddr_A fam s.f X
  have h2 := fun X => checkAddr_A fam s.t X
  have h3 := fun X => cmpAd_A s.f s.t X
  unfold okSp
  generalize okAd fam s.f = p at *
  generalize okAd fam s.t = q at *
  generalize cmpAd s.f s.t = r at *
  have hgt : decide (r > 0) = !decide (r ≤ 0) := by
    by_cases h : r ≤ 0
    · rw [decide_eq_true h, decide_eq_false (by omega)]; rfl
    · rw [decide_eq_false h, decide_eq_true (by omega)]; rfl
  generalize decide (r ≤ 0) = d at *
  obtain ⟨x, hx⟩ : ∃ x, decide (r > 0) = x := ⟨_, rfl⟩
  rw [hx] at hgt
  refine .enter Tryz.func98 rfl rfl rfl 31 Tryz.ntmps98 (Nat.le_of_ble_eq_true rfl) ?_
  rcases hf with rfl | rfl <;> cases p <;> cases q <;> cases d
  all_goals
    repeat' first
      | refine WpA.seq ?_
      | refine WpA.region ?_
      | refine WpOps.op _ rfl rfl rfl rfl rfl ?_
      | refine WpOps.box _ rfl rfl rfl rfl rfl ?_
      | refine WpOps.skip rfl rfl rfl ?_
      | (refine WpOps.call rfl rfl rfl rfl rfl (by exact h1 _) ?_; rintro _ _ ⟨rfl, rfl⟩)
      | (refine WpOps.call rfl rfl rfl rfl rfl (by exact h2 _) ?_; rintro _ _ ⟨rfl, rfl⟩)
      | (refine WpOps.call rfl rfl rfl rfl rfl (by exact h3 _) ?_; rintro _ _ ⟨rfl, rfl⟩)
      | refine WpOps.nil ?_
      | refine WpA.ret ?_
      | refine WpA.skip ?_
      | refine WpA.condT rfl ?_
      | refine WpA.condF rfl ?_
      | refine WpA.cond _ rfl (fun h => ?_) (fun h => ?_)
  all_goals clear h1 h2 h3
  all_goals first
    | exact retK.ok («as» := [.int .i64 0]) rfl rfl rfl .int
    | exact retK.ok («as» := [.int .i64 8]) rfl rfl rfl .int
    | (exfalso; rw [hx, hgt] at h; revert h; decide)
    | (exfalso; revert h; decide)
    | (exfalso; simp_all; done)
theorem refSpanCheck_A (fam : Int) (hf : fam = 4 ∨ fam = 6) (s : Sp) (H : List AObj) : CallsA E 85 [.int .u8 fam, .agg s.cells] H (Is H (.int .i64 (if okSp fam s then 0 else 8))) := by
  have h1 := fun X => refCheckAddr_A fam s.f X
  have h2 := fun X => refCheckAddr_A fam s.t X
  have h3 := fun X => refCmp_A s.f s.t X
  have h4 := fun X => width_A fam X
  unfold okSp
  generalize okAd fam s.f = p at *
  generalize okAd fam s.t = q at *
  generalize cmpAd s.f s.t = r at *
  have hgt : decide (r > 0) = !decide (r ≤ 0) := by
    by_cases h : r ≤ 0
    · rw [decide_eq_true h, decide_eq_false (by omega)]; rfl
    · rw [decide_eq_false h, decide_eq_true (by omega)]; rfl
  generalize decide (r ≤ 0) = d at *
  obtain ⟨x, hx⟩ : ∃ x, decide (r > 0) = x := ⟨_, rfl⟩
  rw [hx] at hgt
  refine .enter Tryz.func85 rfl rfl rfl 28 Tryz.ntmps85 (Nat.le_of_ble_eq_true rfl) ?_
  rcases hf with rfl | rfl <;> cases p <;> cases q <;> cases d
  all_goals
    repeat' first
      | refine WpA.seq ?_
      | refine WpA.region ?_
      | refine WpOps.op _ rfl rfl rfl rfl rfl ?_
      | refine WpOps.box _ rfl rfl rfl rfl rfl ?_
      | refine WpOps.skip rfl rfl rfl ?_
      | (refine WpOps.call rfl rfl rfl rfl rfl (by exact h1 _) ?_; rintro _ _ ⟨rfl, rfl⟩)
      | (refine WpOps.call rfl rfl rfl rfl rfl (by exact h2 _) ?_; rintro _ _ ⟨rfl, rfl⟩)
      | (refine WpOps.call rfl rfl rfl rfl rfl (by exact h3 _) ?_; rintro _ _ ⟨rfl, rfl⟩)
      | (refine WpOps.call rfl rfl rfl rfl rfl (by exact h4 _) ?_; rintro _ _ ⟨rfl, rfl⟩)
      | refine WpOps.nil ?_
      | refine WpA.ret ?_
      | refine WpA.skip ?_
      | refine WpA.condT rfl ?_
      | refine WpA.condF rfl ?_
      | refine WpA.cond _ rfl (fun h => ?_) (fun h => ?_)
  all_goals clear h1 h2 h3 h4
  all_goals first
    | exact retK.ok («as» := [.int .i64 0]) rfl rfl rfl .int
    | exact retK.ok («as» := [.int .i64 8]) rfl rfl rfl .int
    | (exfalso; rw [hx, hgt] at h; revert h; decide)
    | (exfalso; revert h; decide)
    | (exfalso; simp_all; done)
end Go.Gp.Tryz

/- Resources: the walks. -/
namespace Go.Gp.Tryz
variable [Inhabited MaxLenT]
open Go.Proofs
set_option linter.unusedVariables false
set_option linter.unusedSimpArgs false
set_option linter.unusedSectionVars false
set_option maxHeartbeats 4000000

def spRows (l : List Sp) : List (List AV) := l.map Sp.cells
theorem spRows_len (l : List Sp) : (spRows l).length = l.length := List.length_map _
theorem spRows_get {l : List Sp} {i : Nat} (h : i < l.length) : (spRows l)[((i : Nat) : Int).toNat]? = some l[i].cells := by
  rw [Int.toNat_natCast, spRows, List.getElem?_map, List.getElem?_eq_getElem h]; rfl
def idxSp (p : Sp → Bool) (l : List Sp) : Int := match l.findIdx? p with | some k => (k : Nat) | none => -1
theorem idxSp_any (p : Sp → Bool) (l : List Sp) : decide (idxSp p l ≥ 0) = l.any p := by
  unfold idxSp
  cases h : l.findIdx? p with
  | none =>
    have := List.findIdx?_eq_none_iff.1 h
    rw [show l.any p = false from List.any_eq_false.2 (fun x hx => by simpa using this x hx)]
    rfl
  | some k =>
    have := List.findIdx?_eq_some_iff_getElem.1 h
    obtain ⟨h1, h2, _⟩ := this
    rw [show l.any p = true from List.any_eq_true.2 ⟨l[k], List.getElem_mem h1, h2⟩]
    exact decide_eq_true (Int.natCast_nonneg k)
theorem indexSp_A (l : List Sp) (fv : AV) (p : Sp → Bool) (X : List AObj) (hl : l.length ≤ 1000000) (hf : ∀ L s, AppA E fv [.agg s.cells] (X ++ L) (Is (X ++ L) (.bool (p s)))) :
    CallsA E 117 [.sl .no 4 (spRows l), fv] X (Is X (.int .i64 (idxSp p l))) := by
  have hlen := spRows_len l
  refine .enter Tryz.func117 rfl rfl rfl 19 Tryz.ntmps117 (Nat.le_of_ble_eq_true rfl) ?_
  repeat' first
    | refine WpA.seq ?_
    | refine WpA.region ?_
    | refine WpOps.op _ rfl rfl rfl rfl rfl ?_
    | refine WpA.block ?_
    | refine WpOps.nil ?_
  refine WpA.loopS (α := Nat) (fun i => [(0, .sl .no 4 (spRows l)), (1, fv), (7, .int .i64 (l.length : Nat)), (8, .int .i64 (i : Nat))]) (fun _ => X ++ []) (fun i => i ≤ l.length ∧ ∀ j (hj : j < i) (h2 : j < l.length), p l[j] = false) (fun i => l.length - i) 0 ⟨Nat.zero_le _, fun j hj => absurd hj (by omega)⟩ ⟨rfl, rfl, by rw [← hlen]; rfl, rfl, trivial⟩ rfl (fun i hi => ?_)
  obtain ⟨hi1, hi2⟩ := hi
  by_cases hlt : i < l.length
  · have hd : decide (((i : Nat) : Int) < ((l.length : Nat) : Int)) = true := decide_eq_true (by omega)
    have hg := spRows_get hlt
    obtain ⟨s, hs⟩ : ∃ s, l[i] = s := ⟨_, rfl⟩
    obtain ⟨q, hq⟩ : ∃ q, p s = q := ⟨_, rfl⟩
    rw [hs] at hg
    have happ := hf [] s
    rw [hq] at happ
    cases q with
    | true =>
      have hr : idxSp p l = (i : Nat) := by
        rw [idxSp, List.findIdx?_eq_some_iff_getElem.2 ⟨hlt, by rw [hs]; exact hq, fun j hj => by rw [hi2 j hj (by omega)]; simp⟩]
      rw [hr]
      repeat' first
        | refine WpA.condT (congrArg AV.bool hd) ?_
        | (refine WpOps.elem _ rfl rfl rfl rfl rfl rfl rfl rfl rfl (Int.natCast_nonneg i) hg ?_)
        | (refine WpOps.callV rfl rfl rfl rfl rfl (by exact happ) ?_; rintro _ _ ⟨rfl, rfl⟩)
        | refine WpA.seq ?_
        | refine WpA.region ?_
        | refine WpOps.op _ rfl rfl rfl rfl rfl ?_
        | refine WpA.block ?_
        | refine WpOps.nil ?_
        | refine WpA.ret ?_
        | refine WpA.skip ?_
        | refine WpA.condT rfl ?_
      exact retK.ok rfl rfl rfl .int
    | false =>
      repeat' first
        | refine WpA.condT (congrArg AV.bool hd) ?_
        | (refine WpOps.elem _ rfl rfl rfl rfl rfl rfl rfl rfl rfl (Int.natCast_nonneg i) hg ?_)
        | (refine WpOps.callV rfl rfl rfl rfl rfl (by exact happ) ?_; rintro _ _ ⟨rfl, rfl⟩)
        | refine WpA.seq ?_
        | refine WpA.region ?_
        | refine WpOps.op _ rfl rfl rfl rfl rfl ?_
        | refine WpA.block ?_
        | refine WpOps.nil ?_
        | refine WpA.skip ?_
        | refine WpA.condF rfl ?_
      refine ⟨i + 1, ⟨hlt, fun j hj h2 => ?_⟩, by omega, ⟨rfl, rfl, rfl, congrArg (AV.int .i64) (wrap64 (by omega) (by omega)), trivial⟩, rfl⟩
      rcases Nat.lt_or_ge j i with h | h
      · exact hi2 j h h2
      · have : j = i := by omega
        subst this
        rw [hs]; exact hq
  · have hd : decide (((i : Nat) : Int) < ((l.length : Nat) : Int)) = false := decide_eq_false (by omega)
    have hr : idxSp p l = -1 := by
      rw [idxSp, List.findIdx?_eq_none_iff.2 (fun x hx => ?_)]
      obtain ⟨j, hj, rfl⟩ := List.mem_iff_getElem.1 hx
      rw [hi2 j (by omega) hj]
    rw [hr]
    repeat' first
      | refine WpA.condF (congrArg AV.bool hd) ?_
      | refine WpA.seq ?_
      | refine WpA.region ?_
      | refine WpOps.op _ rfl rfl rfl rfl rfl ?_
      | refine WpA.exit ?_
      | refine WpOps.nil ?_
      | refine WpA.ret ?_
    exact retK.ok rfl rfl rfl .int
theorem containsSp_A (l : List Sp) (fv : AV) (p : Sp → Bool) (X : List AObj) (hl : l.length ≤ 1000000) (hf : ∀ L s, AppA E fv [.agg s.cells] (X ++ L) (Is (X ++ L) (.bool (p s)))) :
    CallsA E 96 [.sl .no 4 (spRows l), fv] X (Is X (.bool (l.any p))) := by
  have hI : CallsA E 117 [.sl .no 4 (spRows l), fv] (X ++ []) (Is (X ++ []) (.int .i64 (idxSp p l))) := indexSp_A l fv p (X ++ []) hl (fun L s => by have := hf ([] ++ L) s; rwa [← List.append_assoc] at this)
  have hr := idxSp_any p l
  refine .enter Tryz.func96 rfl rfl rfl 9 Tryz.ntmps96 (Nat.le_of_ble_eq_true rfl) ?_
  rw [← hr]
  generalize idxSp p l = k at *
  repeat' first
    | refine WpA.seq ?_
    | refine WpA.region ?_
    | refine WpOps.op _ rfl rfl rfl rfl rfl ?_
    | (refine WpOps.call rfl rfl rfl rfl rfl (by exact hI) ?_; rintro _ _ ⟨rfl, rfl⟩)
    | refine WpOps.nil ?_
    | refine WpA.ret ?_
  exact retK.ok rfl rfl rfl .bool
def famK : Nat → Int
  | 1 => 6
  | _ => 4
theorem famK_ok (k : Nat) : famK k = 4 ∨ famK k = 6 := by
  unfold famK; split <;> simp
theorem good1_A (fam : Int) (hf : fam = 4 ∨ fam = 6) (s : Sp) (m j : Nat) (X : List AObj) (hX : X[m + j]? = some (.cells [.int .u8 fam])) :
    CallsA E 97 [.agg s.cells, .ptr m j 0] X (Is X (.bool (!okSp fam s))) := by
  have hS := fun Y => spanCheck_A fam hf s Y
  refine .enter Tryz.func97 rfl rfl rfl 8 Tryz.ntmps97 (Nat.le_of_ble_eq_true rfl) ?_
  cases ho : okSp fam s with
  | true =>
    rw [ho, if_pos rfl] at hS
    repeat' first
      | (refine WpOps.loadOut _ rfl rfl rfl rfl rfl hX rfl rfl rfl ?_)
      | refine WpA.seq ?_
      | refine WpA.region ?_
      | refine WpOps.op _ rfl rfl rfl rfl rfl ?_
      | refine WpOps.box _ rfl rfl rfl rfl rfl ?_
      | (refine WpOps.call rfl rfl rfl rfl rfl (by exact hS _) ?_; rintro _ _ ⟨rfl, rfl⟩)
      | refine WpOps.nil ?_
      | refine WpA.ret ?_
    exact retK.ok («as» := [.bool false]) rfl rfl rfl .bool
  | false =>
    rw [ho, if_neg (by decide)] at hS
    repeat' first
      | (refine WpOps.loadOut _ rfl rfl rfl rfl rfl hX rfl rfl rfl ?_)
      | refine WpA.seq ?_
      | refine WpA.region ?_
      | refine WpOps.op _ rfl rfl rfl rfl rfl ?_
      | refine WpOps.box _ rfl rfl rfl rfl rfl ?_
      | (refine WpOps.call rfl rfl rfl rfl rfl (by exact hS _) ?_; rintro _ _ ⟨rfl, rfl⟩)
      | refine WpOps.nil ?_
      | refine WpA.ret ?_
    exact retK.ok («as» := [.bool true]) rfl rfl rfl .bool
def goodL (fam : Int) (l : List Sp) : Bool := !(l.any fun s => !okSp fam s)
theorem good_A (k : Nat) (hk : k < 3) (l : List Sp) (H : List AObj) (hl : l.length ≤ 1000000) : CallsA E 73 [.int .i64 (k : Nat), .sl .no 4 (spRows l)] H (Is H (.bool (goodL (famK k) l))) := by
  have hC : CallsA E 96 [.sl .no 4 (spRows l), .func 97 [.ptr H.length 0 0]] (H ++ [.cells [.int .u8 (famK k)]]) (Is (H ++ [.cells [.int .u8 (famK k)]]) (.bool (l.any fun s => !okSp (famK k) s))) :=
    containsSp_A l _ (fun s => !okSp (famK k) s) _ hl (fun L s => AppA.of_calls (good1_A (famK k) (famK_ok k) s H.length 0 _ (by rw [List.append_assoc]; exact app_get rfl rfl)))
  have hg : [[AV.int .u8 4], [.int .u8 6], [.int .u8 4]][((k : Nat) : Int).toNat]? = some [.int .u8 (famK k)] := by
    match k, hk with
    | 0, _ => rfl
    | 1, _ => rfl
    | 2, _ => rfl
  rw [goodL]
  generalize (l.any fun s => !okSp (famK k) s) = b at *
  generalize famK k = f at *
  refine .enter Tryz.func73 rfl rfl rfl 14 Tryz.ntmps73 (Nat.le_of_ble_eq_true rfl) ?_
  repeat' first
    | (refine WpOps.buildSlice _ rfl rfl rfl rfl rfl rfl rfl rfl rfl rfl rfl ?_)
    | (refine WpOps.elem _ rfl rfl rfl rfl rfl rfl rfl rfl rfl (Int.natCast_nonneg k) hg ?_)
    | refine WpA.seq ?_
    | refine WpA.region ?_
    | refine WpOps.op _ rfl rfl rfl rfl rfl ?_
    | refine WpOps.alloc _ rfl rfl rfl rfl rfl rfl ?_
    | refine WpOps.store rfl rfl rfl rfl rfl rfl rfl rfl rfl rfl ?_
    | (refine WpOps.call rfl rfl rfl rfl rfl (by exact hC) ?_; rintro _ _ ⟨rfl, rfl⟩)
    | refine WpOps.nil ?_
    | refine WpA.ret ?_
  exact retK.ok rfl rfl rfl .bool
end Go.Gp.Tryz

/- Resources: normal lists, and sets. -/
namespace Go.Gp.Tryz
variable [Inhabited MaxLenT]
open Go.Proofs
set_option linter.unusedVariables false
set_option linter.unusedSimpArgs false
set_option linter.unusedSectionVars false
set_option maxHeartbeats 4000000

def normB (l : List Sp) (i : Nat) : Bool := i == 0 || (match l[i]?, l[i - 1]? with | some x, some y => afterB x.f y.t | _, _ => true)
def normL (l : List Sp) : Bool := (List.range l.length).all (normB l)
theorem normL_false {l : List Sp} {i : Nat} (hi : i < l.length) (h : normB l i = false) : normL l = false := by
  cases e : normL l with
  | false => rfl
  | true =>
    have := List.all_eq_true.1 e i (List.mem_range.2 hi)
    rw [h] at this
    cases this
theorem normL_true {l : List Sp} (h : ∀ j, j < l.length → normB l j = true) : normL l = true := List.all_eq_true.2 fun j hj => h j (List.mem_range.1 hj)
theorem normal_A (l : List Sp) (H : List AObj) (hl : l.length ≤ 1000000) (hok : ∀ s ∈ l, s.ok) : CallsA E 54 [.sl .no 4 (spRows l)] H (Is H (.bool (normL l))) := by
  have hlen := spRows_len l
  refine .enter Tryz.func54 rfl rfl rfl 23 Tryz.ntmps54 (Nat.le_of_ble_eq_true rfl) ?_
  repeat' first
    | refine WpA.seq ?_
    | refine WpA.region ?_
    | refine WpOps.op _ rfl rfl rfl rfl rfl ?_
    | refine WpA.block ?_
    | refine WpOps.nil ?_
  refine WpA.loopS (α := Nat) (fun i => [(0, .sl .no 4 (spRows l)), (3, .int .i64 (i : Nat))]) (fun _ => H ++ []) (fun i => 1 ≤ i ∧ (i = 1 ∨ i ≤ l.length) ∧ ∀ j, j < i → j < l.length → normB l j = true) (fun i => l.length + 1 - i) 1 ⟨Nat.le_refl _, .inl rfl, fun j hj _ => by obtain rfl : j = 0 := (by omega); rfl⟩ ⟨rfl, rfl, trivial⟩ rfl (fun i hi => ?_)
  obtain ⟨hi1, hi3, hi2⟩ := hi
  by_cases hlt : i < l.length
  · have hd : decide (((i : Nat) : Int) < (((spRows l).length : Nat) : Int)) = true := decide_eq_true (by rw [hlen]; omega)
    have hg := spRows_get hlt
    have hg1 := spRows_get (l := l) (i := i - 1) (by omega)
    have hA := fun X => after_A l[i].f (l[i - 1]'(by omega)).t (hok _ (List.getElem_mem hlt)).1 (hok _ (List.getElem_mem _)).2 X
    have hB : normB l i = afterB l[i].f (l[i - 1]'(by omega)).t := by
      rw [normB, List.getElem?_eq_getElem hlt, List.getElem?_eq_getElem (show i - 1 < l.length by omega)]
      simp; omega
    rw [← hB] at hA
    have hw : IntKind.i64.wrap (((i : Nat) : Int) - 1) = ((i - 1 : Nat) : Int) := by rw [wrap64 (by omega) (by omega)]; omega
    obtain ⟨x, hx⟩ : ∃ x, l[i] = x := ⟨_, rfl⟩
    obtain ⟨y, hy⟩ : ∃ y, l[i - 1]'(by omega) = y := ⟨_, rfl⟩
    obtain ⟨q, hq⟩ : ∃ q, normB l i = q := ⟨_, rfl⟩
    rw [hx] at hg
    rw [hy] at hg1
    rw [hx, hy, hq] at hA
    clear hB
    cases q with
    | false =>
      rw [normL_false hlt hq]
      repeat' first
        | refine WpA.condT (congrArg AV.bool hd) ?_
        | (refine LexA.elem _ rfl rfl rfl rfl rfl rfl rfl rfl rfl (Int.natCast_nonneg i) hg ?_)
        | (refine LexA.elem _ rfl rfl rfl rfl rfl rfl rfl rfl rfl (by rw [hw]; exact Int.natCast_nonneg _) (by rw [hw]; exact hg1) ?_)
        | refine WpA.seq ?_
        | refine WpA.region ?_
        | refine WpOps.op _ rfl rfl rfl rfl rfl ?_
        | refine WpA.block ?_
        | refine WpOps.nil ?_
        | refine WpA.ret ?_
        | refine WpA.skip ?_
        | refine WpA.condT rfl ?_
        | refine WpA.draw (by kernel_rfl) ?_
        | refine LexA.op _ rfl rfl rfl rfl rfl ?_
        | refine LexA.call rfl rfl rfl rfl rfl (by exact hA _) ?_
        | refine LexA.nil ?_
      exact retK.ok rfl rfl rfl .bool
    | true =>
      repeat' first
        | refine WpA.condT (congrArg AV.bool hd) ?_
        | (refine LexA.elem _ rfl rfl rfl rfl rfl rfl rfl rfl rfl (Int.natCast_nonneg i) hg ?_)
        | (refine LexA.elem _ rfl rfl rfl rfl rfl rfl rfl rfl rfl (by rw [hw]; exact Int.natCast_nonneg _) (by rw [hw]; exact hg1) ?_)
        | refine WpA.seq ?_
        | refine WpA.region ?_
        | refine WpOps.op _ rfl rfl rfl rfl rfl ?_
        | refine WpA.block ?_
        | refine WpOps.nil ?_
        | refine WpA.skip ?_
        | refine WpA.condF rfl ?_
        | refine WpA.draw (by kernel_rfl) ?_
        | refine LexA.op _ rfl rfl rfl rfl rfl ?_
        | refine LexA.call rfl rfl rfl rfl rfl (by exact hA _) ?_
        | refine LexA.nil ?_
      refine ⟨i + 1, ⟨by omega, .inr hlt, fun j hj h2 => ?_⟩, by omega, ⟨rfl, congrArg (AV.int .i64) (wrap64 (by omega) (by omega)), trivial⟩, rfl⟩
      rcases Nat.lt_or_ge j i with h | h
      · exact hi2 j h h2
      · have : j = i := by omega
        subst this
        exact hq
  · have hd : decide (((i : Nat) : Int) < (((spRows l).length : Nat) : Int)) = false := decide_eq_false (by rw [hlen]; omega)
    rw [normL_true (fun j hj => hi2 j (by omega) hj)]
    repeat' first
      | refine WpA.condF (congrArg AV.bool hd) ?_
      | refine WpA.seq ?_
      | refine WpA.region ?_
      | refine WpOps.op _ rfl rfl rfl rfl rfl ?_
      | refine WpA.exit ?_
      | refine WpOps.nil ?_
      | refine WpA.ret ?_
    exact retK.ok rfl rfl rfl .bool
structure As where
  f : Nat
  t : Nat
def As.cells (a : As) : List AV := [.int .u32 (a.f : Int), .int .u32 (a.t : Int)]
def As.ok (a : As) : Prop := a.f < 4294967296 ∧ a.t < 4294967296
def wideS (a : As) : Sp := ⟨⟨0, a.f⟩, ⟨0, a.t⟩⟩
theorem sp_bd {n : Nat} (s : Sp) : Bd n (.agg s.cells) := .agg fun y hy => by
  simp only [Sp.cells, List.mem_cons, List.not_mem_nil, or_false] at hy
  rcases hy with rfl | rfl | rfl | rfl <;> exact .int
theorem wide_A (a : As) (ha : a.ok) (H : List AObj) : CallsA E 75 [.agg a.cells] H (Is H (.agg (wideS a).cells)) := by
  obtain ⟨f, t⟩ := a
  obtain ⟨h1, h2⟩ := ha
  dsimp only at h1 h2
  have e1 : IntKind.u64.wrap (f : Int) = f := wrapu64 (by omega) (by omega)
  have e2 : IntKind.u64.wrap (t : Int) = t := wrapu64 (by omega) (by omega)
  clear h1 h2
  refine .enter Tryz.func75 rfl rfl rfl 12 Tryz.ntmps75 (Nat.le_of_ble_eq_true rfl) ?_
  repeat' first
    | refine WpA.seq ?_
    | refine WpA.region ?_
    | refine WpOps.op _ rfl rfl rfl rfl rfl ?_
    | refine WpOps.box _ rfl rfl rfl rfl rfl ?_
    | refine WpOps.alloc _ rfl rfl rfl rfl rfl rfl ?_
    | refine WpOps.store rfl rfl rfl rfl rfl rfl rfl rfl rfl rfl ?_
    | refine WpOps.build _ rfl rfl rfl rfl rfl ?_
    | refine WpOps.nil ?_
    | refine WpA.ret ?_
  refine retK.ok («as» := [.agg [.int .u64 0, .int .u64 (IntKind.u64.wrap (f : Int)), .int .u64 0, .int .u64 (IntKind.u64.wrap (t : Int))]]) rfl rfl ?_ (sp_bd _)
  rw [e1, e2]; rfl
def asRows (l : List As) : List (List AV) := l.map As.cells
theorem asRows_len (l : List As) : (asRows l).length = l.length := List.length_map _
theorem asRows_get {l : List As} {i : Nat} (h : i < l.length) : (asRows l)[((i : Nat) : Int).toNat]? = some l[i].cells := by
  rw [Int.toNat_natCast, asRows, List.getElem?_map, List.getElem?_eq_getElem h]; rfl
theorem sp_one (s : Sp) : ∀ y ∈ [s.cells], ∀ a ∈ y, a.one = true := fun y hy a ha => by
  have := List.mem_singleton.1 hy
  subst this
  simp only [Sp.cells, List.mem_cons, List.not_mem_nil, or_false] at ha
  rcases ha with rfl | rfl | rfl | rfl <;> rfl
theorem bd_asRows {n : Nat} (l : List As) : Bd n (.sl .no 2 (asRows l)) := .sl (fun _ _ e => by cases e) fun x hx e he => by
  obtain ⟨a, _, rfl⟩ := List.mem_map.1 hx
  simp only [As.cells, List.mem_cons, List.not_mem_nil, or_false] at he
  rcases he with rfl | rfl <;> exact .int
theorem bd_spRow {n m j : Nat} (l : List Sp) (h : m + j < n) : Bd n (.sl (.row m j) 4 (spRows l)) := .sl (fun _ _ e => by cases e; exact h) fun x hx e he => by
  obtain ⟨a, _, rfl⟩ := List.mem_map.1 hx
  simp only [Sp.cells, List.mem_cons, List.not_mem_nil, or_false] at he
  rcases he with rfl | rfl | rfl | rfl <;> exact .int
theorem bd_spNo {n : Nat} (l : List Sp) : Bd n (.sl .no 4 (spRows l)) := .sl (fun _ _ e => by cases e) fun x hx e he => by
  obtain ⟨a, _, rfl⟩ := List.mem_map.1 hx
  simp only [Sp.cells, List.mem_cons, List.not_mem_nil, or_false] at he
  rcases he with rfl | rfl | rfl | rfl <;> exact .int
theorem convert_A (l : List As) (H : List AObj) (hl : l.length ≤ 1000000) (hok : ∀ a ∈ l, a.ok) :
    CallsA E 74 [.sl .no 2 (asRows l), .func 75 []] H (Is H (.sl .no 4 (spRows (l.map wideS)))) := by
  have hlen := asRows_len l
  refine .enter Tryz.func74 rfl rfl rfl 22 Tryz.ntmps74 (Nat.le_of_ble_eq_true rfl) ?_
  refine WpA.seq ?_
  repeat' first
    | refine WpA.region ?_
    | refine WpOps.op _ rfl rfl rfl rfl rfl ?_
    | refine WpOps.nil ?_
  refine WpA.seq ?_
  repeat' first
    | refine WpA.region ?_
    | refine WpOps.op _ rfl rfl rfl rfl rfl ?_
    | refine WpOps.nil ?_
  refine WpA.weak (T := [(0, .sl .no 2 (asRows l)), (1, .func 75 []), (5, .sl .full 0 [])]) ⟨rfl, rfl, rfl, trivial⟩ ?_
  show WpA E none 22 _ _ _ (H ++ [])
  refine WpA.adoptS 5 4 rfl ?_
  repeat' first
    | refine WpA.seq ?_
    | refine WpA.region ?_
    | refine WpOps.op _ rfl rfl rfl rfl rfl ?_
    | refine WpA.block ?_
    | refine WpOps.nil ?_
  refine WpA.loopG l.length (fun i => [(1, .func 75 []), (5, .sl (.row H.length 0) 4 (spRows ((l.take i).map wideS))), (8, .sl .no 2 (asRows l)), (9, .int .i64 (l.length : Nat)), (10, .int .i64 (i : Nat))])
    (fun i => H ++ [.tail (spRows ((l.take i).map wideS)).length 4]) (fun _ => True) trivial ⟨rfl, rfl, rfl, by rw [← hlen]; rfl, rfl, trivial⟩ rfl (fun _ _ => by simp) (fun i hi _ => ?_) (fun i hi _ => ⟨.func (fun _ h => by cases h), bd_spRow _ (by simp), bd_asRows _, .int, .int, trivial⟩) (fun i hi _ => ?_) (fun _ => ?_) (fun _ => ⟨rfl, rfl, rfl, rfl, rfl, trivial⟩)
  · refine TrOk.app fun k o hk => ?_
    rcases k with _ | k
    · injection hk with hk; subst hk; exact .inr obd_tail
    · cases hk
  · have hd : decide (((i : Nat) : Int) < ((l.length : Nat) : Int)) = true := decide_eq_true (by omega)
    have hg := asRows_get hi
    have hW := fun X => AppA.of_calls (caps := []) (args := [.agg l[i].cells]) (wide_A l[i] (hok _ (List.getElem_mem hi)) X)
    have e1 : spRows ((l.take (i + 1)).map wideS) = spRows ((l.take i).map wideS) ++ [(wideS l[i]).cells] := by
      rw [List.take_succ_eq_append_getElem hi, List.map_append, spRows, spRows, List.map_append]; rfl
    have hrl : (spRows ((l.take i).map wideS)).length = i := by rw [spRows_len, List.length_map, List.length_take]; omega
    rw [e1]
    generalize spRows ((l.take i).map wideS) = out at *
    have hone := sp_one (wideS l[i])
    obtain ⟨x, hx⟩ : ∃ x, wideS l[i] = x := ⟨_, rfl⟩
    obtain ⟨y, hy⟩ : ∃ y, l[i] = y := ⟨_, rfl⟩
    rw [hx] at hW hone ⊢
    rw [hy] at hg hW
    have hfit : (out.length + 1) * 32 ≤ 140737488355328 := by omega
    repeat' first
      | refine WpA.condT (congrArg AV.bool hd) ?_
      | (refine WpOps.elem _ rfl rfl rfl rfl rfl rfl rfl rfl rfl (Int.natCast_nonneg i) hg ?_)
      | (refine WpOps.callV rfl rfl rfl rfl rfl (by exact hW _) ?_; rintro _ _ ⟨rfl, rfl⟩)
      | refine WpA.seq ?_
      | refine WpA.region ?_
      | refine WpOps.op _ rfl rfl rfl rfl rfl ?_
      | refine WpOps.alloc _ rfl rfl rfl rfl rfl rfl ?_
      | refine WpOps.store rfl rfl rfl rfl rfl rfl rfl rfl rfl rfl ?_
      | (refine WpOps.buildSlice _ rfl rfl rfl rfl rfl rfl rfl rfl rfl rfl rfl ?_)
      | (refine WpOps.appR (ys := [x.cells]) rfl rfl rfl rfl rfl rfl rfl (fun k h => by cases h) rfl rfl rfl rfl rfl rfl (by exact hone) (by exact hfit) ?_)
      | refine WpA.block ?_
      | refine WpOps.nil ?_
      | refine WpA.skip ?_
    exact ⟨trivial, ⟨rfl, rfl, rfl, rfl, congrArg (AV.int .i64) (wrap64 (by omega) (by omega)), trivial⟩, [.cells y.cells], by simp; exact ⟨rfl, rfl⟩⟩
  · rw [List.take_length]
    have hd : decide (((l.length : Nat) : Int) < ((l.length : Nat) : Int)) = false := decide_eq_false (by omega)
    repeat' first
      | refine WpA.condF (congrArg AV.bool hd) ?_
      | refine WpA.seq ?_
      | refine WpA.region ?_
      | refine WpOps.op _ rfl rfl rfl rfl rfl ?_
      | refine WpA.exit ?_
      | refine WpOps.nil ?_
      | refine WpA.ret ?_
    exact retK.sub (.inr rfl) rfl (TrOk.refl H) (L := _) rfl rfl Sub.untag (bd_spNo _) ⟨rfl, rfl⟩
end Go.Gp.Tryz

/- Resources: Check. -/
namespace Go.Gp.Tryz
variable [Inhabited MaxLenT]
open Go.Proofs
set_option linter.unusedVariables false
set_option linter.unusedSimpArgs false
set_option linter.unusedSectionVars false
set_option maxHeartbeats 4000000

structure Res where
  v4 : List Sp
  v6 : List Sp
  sy : List As
def Res.cells (r : Res) : List AV := [.sl .no 4 (spRows r.v4), .sl .no 4 (spRows r.v6), .sl .no 2 (asRows r.sy)]
def Res.ok (r : Res) : Prop := (∀ s ∈ r.v4, s.ok) ∧ (∀ s ∈ r.v6, s.ok) ∧ ∀ a ∈ r.sy, a.ok
def Res.small (r : Res) : Prop := r.v4.length ≤ 1000 ∧ r.v6.length ≤ 1000 ∧ r.sy.length ≤ 1000
def Res.asw (r : Res) : List Sp := r.sy.map wideS
theorem asw_ok {r : Res} (h : r.ok) : ∀ s ∈ r.asw, s.ok := fun s hs => by
  obtain ⟨a, ha, rfl⟩ := List.mem_map.1 hs
  obtain ⟨h1, h2⟩ := h.2.2 a ha
  have k1 : a.f < 18446744073709551616 := by omega
  have k2 : a.t < 18446744073709551616 := by omega
  exact ⟨⟨by show 0 < _; decide, k1⟩, ⟨by show 0 < _; decide, k2⟩⟩
def setsAV (r : Res) : AV := .agg [.sl .no 4 (spRows r.v4), .sl .no 4 (spRows r.v6), .sl .no 4 (spRows r.asw)]
theorem sets_bd {n : Nat} (r : Res) : Bd n (setsAV r) := .agg fun x hx => by
  simp only [List.mem_cons, List.not_mem_nil, or_false] at hx
  rcases hx with rfl | rfl | rfl <;> exact bd_spNo _
theorem sets_A (r : Res) (H : List AObj) (hs : r.small) (ho : r.ok) : CallsA E 53 [.agg r.cells] H (Is H (setsAV r)) := by
  have hC := fun X => convert_A r.sy X (by have := hs.2.2; omega) ho.2.2
  have hb := fun n => sets_bd (n := n) r
  unfold setsAV Res.asw at *
  unfold Res.cells
  generalize spRows (r.sy.map wideS) = cc at *
  generalize spRows r.v4 = aa at *
  generalize spRows r.v6 = bb at *
  generalize asRows r.sy = dd at *
  refine .enter Tryz.func53 rfl rfl rfl 11 Tryz.ntmps53 (Nat.le_of_ble_eq_true rfl) ?_
  repeat' first
    | refine WpA.drawI (id := 1) [H.length + 0] [0, 4, 0, 4, 0, 4, 0, 0, 2] (by kernel_rfl) (by kernel_rfl) ?_
    | refine WpA.seq ?_
    | refine WpA.region ?_
    | refine WpOps.box _ rfl rfl rfl rfl rfl ?_
    | refine WpOps.alloc _ rfl rfl rfl rfl rfl rfl ?_
    | refine WpOps.nil ?_
    | refine WpA.ret ?_
    | refine LexH.op0 _ rfl rfl rfl rfl rfl (fun _ => rfl) ?_
    | refine LexH.load4 _ rfl rfl rfl rfl rfl rfl (by simp) rfl rfl rfl rfl ?_
    | refine LexH.build _ rfl rfl rfl rfl rfl rfl ?_
    | refine LexH.store rfl rfl rfl rfl rfl rfl rfl rfl rfl rfl rfl ?_
    | refine LexH.call0 rfl rfl rfl rfl rfl rfl (fun _ => by exact hC _) ?_
    | refine LexH.nil ?_
  exact retK.ok («as» := [.agg [.sl .no 4 aa, .sl .no 4 bb, .sl .no 4 cc]]) rfl rfl rfl (hb _)
def checkedE (r : Res) : Int := if 200 < r.v4.length ∨ 200 < r.v6.length ∨ 200 < r.sy.length then 4 else if goodL 4 r.v4 && (goodL 6 r.v6 && goodL 4 r.asw) then 0 else 8
theorem max3_gt (a b c : Int) : (200 < (if c > (if b > a then b else a) then c else (if b > a then b else a))) ↔ (200 < a ∨ 200 < b ∨ 200 < c) := by
  split <;> (try split) <;> omega
theorem checked_A (r : Res) (H : List AObj) (hs : r.small) (ho : r.ok) : CallsA E 52 [.agg r.cells] H (Is H (.int .i64 (checkedE r))) := by
  have hS := fun X => sets_A r X hs ho
  have hl4 := spRows_len r.v4
  have hl6 := spRows_len r.v6
  have hla := asRows_len r.sy
  have g0 := fun X => good_A 0 (by decide) r.v4 X (by have := hs.1; omega)
  have g1 := fun X => good_A 1 (by decide) r.v6 X (by have := hs.2.1; omega)
  have g2 := fun X => good_A 2 (by decide) r.asw X (by have := hs.2.2; rw [Res.asw, List.length_map]; omega)
  unfold checkedE
  rw [← hl4, ← hl6, ← hla]
  unfold setsAV at hS
  unfold Res.cells at hS ⊢
  show CallsA E _ _ _ (Is H (.int .i64 (if 200 < (spRows r.v4).length ∨ 200 < (spRows r.v6).length ∨ 200 < (asRows r.sy).length then 4 else if goodL (famK 0) r.v4 && (goodL (famK 1) r.v6 && goodL (famK 2) r.asw) then 0 else 8)))
  generalize goodL (famK 0) r.v4 = q0 at *
  generalize goodL (famK 1) r.v6 = q1 at *
  generalize goodL (famK 2) r.asw = q2 at *
  generalize spRows r.v4 = aa at *
  generalize spRows r.v6 = bb at *
  generalize spRows r.asw = cc at *
  generalize asRows r.sy = dd at *
  refine .enter Tryz.func52 rfl rfl rfl 27 Tryz.ntmps52 (Nat.le_of_ble_eq_true rfl) ?_
  have hm := max3_gt (aa.length : Nat) (bb.length : Nat) (dd.length : Nat)
  by_cases h200 : 200 < aa.length ∨ 200 < bb.length ∨ 200 < dd.length
  · rw [if_pos h200]
    have hd : decide ((if ((dd.length : Nat) : Int) > (if ((bb.length : Nat) : Int) > ((aa.length : Nat) : Int) then ((bb.length : Nat) : Int) else ((aa.length : Nat) : Int)) then ((dd.length : Nat) : Int) else (if ((bb.length : Nat) : Int) > ((aa.length : Nat) : Int) then ((bb.length : Nat) : Int) else ((aa.length : Nat) : Int))) > 200) = true := decide_eq_true (hm.2 (by omega))
    repeat' first
      | refine WpA.condT (congrArg AV.bool hd) ?_
      | (refine WpOps.p1 rfl rfl rfl (.max3 rfl rfl rfl rfl) ?_)
      | refine WpA.seq ?_
      | refine WpA.region ?_
      | refine WpOps.op _ rfl rfl rfl rfl rfl ?_
      | refine WpOps.box _ rfl rfl rfl rfl rfl ?_
      | refine WpOps.nil ?_
      | refine WpA.ret ?_
    exact retK.ok rfl rfl rfl .int
  · rw [if_neg h200]
    have hd : decide ((if ((dd.length : Nat) : Int) > (if ((bb.length : Nat) : Int) > ((aa.length : Nat) : Int) then ((bb.length : Nat) : Int) else ((aa.length : Nat) : Int)) then ((dd.length : Nat) : Int) else (if ((bb.length : Nat) : Int) > ((aa.length : Nat) : Int) then ((bb.length : Nat) : Int) else ((aa.length : Nat) : Int))) > 200) = false := decide_eq_false (fun h => h200 (by have := hm.1 h; omega))
    repeat' first
      | refine WpA.condF (congrArg AV.bool hd) ?_
      | (refine WpOps.p1 rfl rfl rfl (.max3 rfl rfl rfl rfl) ?_)
      | refine WpA.seq ?_
      | refine WpA.region ?_
      | refine WpOps.op _ rfl rfl rfl rfl rfl ?_
      | refine WpOps.box _ rfl rfl rfl rfl rfl ?_
      | (refine WpOps.call rfl rfl rfl rfl rfl (by exact hS _) ?_; rintro _ _ ⟨rfl, rfl⟩)
      | refine WpA.block ?_
      | refine WpOps.nil ?_
      | refine WpA.skip ?_
    refine WpA.loopS (α := Nat) (fun i => [(17, .agg [.sl .no 4 aa, .sl .no 4 bb, .sl .no 4 cc]), (18, .int .i64 (i : Nat))]) (fun _ => H ++ [.cells [.sl .no 4 aa, .sl .no 4 bb, .sl .no 2 dd]]) (fun i => i ≤ 3 ∧ (0 < i → q0 = true) ∧ (1 < i → q1 = true) ∧ (2 < i → q2 = true)) (fun i => 3 - i) 0 ⟨by omega, by omega, by omega, by omega⟩ ⟨rfl, rfl, trivial⟩ rfl (fun i hi => ?_)
    obtain ⟨hi, k0, k1, k2⟩ := hi
    match i, hi with
    | 0, _ =>
      cases q0 with
      | false =>
        repeat' first
          | (refine WpOps.indexA _ rfl rfl rfl rfl rfl rfl rfl (by decide) (by decide) rfl ?_)
          | refine WpA.seq ?_
          | refine WpA.region ?_
          | refine WpOps.op _ rfl rfl rfl rfl rfl ?_
          | (refine WpOps.call rfl rfl rfl rfl rfl (by exact g0 _) ?_; rintro _ _ ⟨rfl, rfl⟩)
          | refine WpA.block ?_
          | refine WpOps.nil ?_
          | refine WpA.ret ?_
          | refine WpA.skip ?_
          | refine WpA.condT rfl ?_
        exact retK.ok rfl rfl rfl .int
      | true =>
        repeat' first
          | (refine WpOps.indexA _ rfl rfl rfl rfl rfl rfl rfl (by decide) (by decide) rfl ?_)
          | refine WpA.seq ?_
          | refine WpA.region ?_
          | refine WpOps.op _ rfl rfl rfl rfl rfl ?_
          | (refine WpOps.call rfl rfl rfl rfl rfl (by exact g0 _) ?_; rintro _ _ ⟨rfl, rfl⟩)
          | refine WpA.block ?_
          | refine WpOps.nil ?_
          | refine WpA.skip ?_
          | refine WpA.condT rfl ?_
          | refine WpA.condF rfl ?_
        exact ⟨1, ⟨by omega, fun _ => rfl, by omega, by omega⟩, by decide, ⟨rfl, rfl, trivial⟩, rfl⟩
    | 1, _ =>
      obtain rfl := k0 (by omega)
      cases q1 with
      | false =>
        repeat' first
          | (refine WpOps.indexA _ rfl rfl rfl rfl rfl rfl rfl (by decide) (by decide) rfl ?_)
          | refine WpA.seq ?_
          | refine WpA.region ?_
          | refine WpOps.op _ rfl rfl rfl rfl rfl ?_
          | (refine WpOps.call rfl rfl rfl rfl rfl (by exact g1 _) ?_; rintro _ _ ⟨rfl, rfl⟩)
          | refine WpA.block ?_
          | refine WpOps.nil ?_
          | refine WpA.ret ?_
          | refine WpA.skip ?_
          | refine WpA.condT rfl ?_
        exact retK.ok rfl rfl rfl .int
      | true =>
        repeat' first
          | (refine WpOps.indexA _ rfl rfl rfl rfl rfl rfl rfl (by decide) (by decide) rfl ?_)
          | refine WpA.seq ?_
          | refine WpA.region ?_
          | refine WpOps.op _ rfl rfl rfl rfl rfl ?_
          | (refine WpOps.call rfl rfl rfl rfl rfl (by exact g1 _) ?_; rintro _ _ ⟨rfl, rfl⟩)
          | refine WpA.block ?_
          | refine WpOps.nil ?_
          | refine WpA.skip ?_
          | refine WpA.condT rfl ?_
          | refine WpA.condF rfl ?_
        exact ⟨2, ⟨by omega, fun _ => rfl, fun _ => rfl, by omega⟩, by decide, ⟨rfl, rfl, trivial⟩, rfl⟩
    | 2, _ =>
      obtain rfl := k0 (by omega)
      obtain rfl := k1 (by omega)
      cases q2 with
      | false =>
        repeat' first
          | (refine WpOps.indexA _ rfl rfl rfl rfl rfl rfl rfl (by decide) (by decide) rfl ?_)
          | refine WpA.seq ?_
          | refine WpA.region ?_
          | refine WpOps.op _ rfl rfl rfl rfl rfl ?_
          | (refine WpOps.call rfl rfl rfl rfl rfl (by exact g2 _) ?_; rintro _ _ ⟨rfl, rfl⟩)
          | refine WpA.block ?_
          | refine WpOps.nil ?_
          | refine WpA.ret ?_
          | refine WpA.skip ?_
          | refine WpA.condT rfl ?_
        exact retK.ok rfl rfl rfl .int
      | true =>
        repeat' first
          | (refine WpOps.indexA _ rfl rfl rfl rfl rfl rfl rfl (by decide) (by decide) rfl ?_)
          | refine WpA.seq ?_
          | refine WpA.region ?_
          | refine WpOps.op _ rfl rfl rfl rfl rfl ?_
          | (refine WpOps.call rfl rfl rfl rfl rfl (by exact g2 _) ?_; rintro _ _ ⟨rfl, rfl⟩)
          | refine WpA.block ?_
          | refine WpOps.nil ?_
          | refine WpA.skip ?_
          | refine WpA.condT rfl ?_
          | refine WpA.condF rfl ?_
        exact ⟨3, ⟨by omega, fun _ => rfl, fun _ => rfl, fun _ => rfl⟩, by decide, ⟨rfl, rfl, trivial⟩, rfl⟩
    | 3, _ =>
      obtain rfl := k0 (by omega)
      obtain rfl := k1 (by omega)
      obtain rfl := k2 (by omega)
      repeat' first
        | refine WpA.seq ?_
        | refine WpA.region ?_
        | refine WpOps.op _ rfl rfl rfl rfl rfl ?_
        | refine WpA.exit ?_
        | refine WpOps.nil ?_
        | refine WpA.ret ?_
        | refine WpA.condF rfl ?_
      exact retK.ok rfl rfl rfl .int
def resE (r : Res) : Int := if checkedE r ≠ 0 then checkedE r else if normL r.v4 && (normL r.v6 && normL r.asw) then 0 else 8
theorem resCheck_A (r : Res) (H : List AObj) (hs : r.small) (ho : r.ok) : CallsA E 25 [.agg r.cells] H (Is H (.int .i64 (resE r))) := by
  have hS := fun X => sets_A r X hs ho
  have hC := fun X => checked_A r X hs ho
  have g0 := fun X => normal_A r.v4 X (by have := hs.1; omega) ho.1
  have g1 := fun X => normal_A r.v6 X (by have := hs.2.1; omega) ho.2.1
  have g2 := fun X => normal_A r.asw X (by have := hs.2.2; rw [Res.asw, List.length_map]; omega) (asw_ok ho)
  unfold resE
  unfold setsAV at hS
  unfold Res.cells at hS hC ⊢
  generalize checkedE r = ce at *
  generalize normL r.v4 = q0 at *
  generalize normL r.v6 = q1 at *
  generalize normL r.asw = q2 at *
  generalize spRows r.v4 = aa at *
  generalize spRows r.v6 = bb at *
  generalize spRows r.asw = cc at *
  generalize asRows r.sy = dd at *
  refine .enter Tryz.func25 rfl rfl rfl 20 Tryz.ntmps25 (Nat.le_of_ble_eq_true rfl) ?_
  by_cases hce : ce = 0
  · subst hce
    rw [if_neg (by simp)]
    repeat' first
      | refine WpA.seq ?_
      | refine WpA.region ?_
      | refine WpOps.op _ rfl rfl rfl rfl rfl ?_
      | refine WpOps.box _ rfl rfl rfl rfl rfl ?_
      | (refine WpOps.call rfl rfl rfl rfl rfl (by exact hC _) ?_; rintro _ _ ⟨rfl, rfl⟩)
      | (refine WpOps.call rfl rfl rfl rfl rfl (by exact hS _) ?_; rintro _ _ ⟨rfl, rfl⟩)
      | refine WpA.block ?_
      | refine WpOps.nil ?_
      | refine WpA.skip ?_
      | refine WpA.condF rfl ?_
    refine WpA.loopS (α := Nat) (fun i => [(12, .agg [.sl .no 4 aa, .sl .no 4 bb, .sl .no 4 cc]), (13, .int .i64 (i : Nat))]) (fun _ => H ++ [.cells [.sl .no 4 aa, .sl .no 4 bb, .sl .no 2 dd]]) (fun i => i ≤ 3 ∧ (0 < i → q0 = true) ∧ (1 < i → q1 = true) ∧ (2 < i → q2 = true)) (fun i => 3 - i) 0 ⟨by omega, by omega, by omega, by omega⟩ ⟨rfl, rfl, trivial⟩ rfl (fun i hi => ?_)
    obtain ⟨hi, k0, k1, k2⟩ := hi
    match i, hi with
    | 0, _ =>
      cases q0 with
      | false =>
        repeat' first
          | (refine WpOps.indexA _ rfl rfl rfl rfl rfl rfl rfl (by decide) (by decide) rfl ?_)
          | refine WpA.seq ?_
          | refine WpA.region ?_
          | refine WpOps.op _ rfl rfl rfl rfl rfl ?_
          | (refine WpOps.call rfl rfl rfl rfl rfl (by exact g0 _) ?_; rintro _ _ ⟨rfl, rfl⟩)
          | refine WpA.block ?_
          | refine WpOps.nil ?_
          | refine WpA.ret ?_
          | refine WpA.skip ?_
          | refine WpA.condT rfl ?_
        exact retK.ok rfl rfl rfl .int
      | true =>
        repeat' first
          | (refine WpOps.indexA _ rfl rfl rfl rfl rfl rfl rfl (by decide) (by decide) rfl ?_)
          | refine WpA.seq ?_
          | refine WpA.region ?_
          | refine WpOps.op _ rfl rfl rfl rfl rfl ?_
          | (refine WpOps.call rfl rfl rfl rfl rfl (by exact g0 _) ?_; rintro _ _ ⟨rfl, rfl⟩)
          | refine WpA.block ?_
          | refine WpOps.nil ?_
          | refine WpA.skip ?_
          | refine WpA.condT rfl ?_
          | refine WpA.condF rfl ?_
        exact ⟨1, ⟨by omega, fun _ => rfl, by omega, by omega⟩, by decide, ⟨rfl, rfl, trivial⟩, rfl⟩
    | 1, _ =>
      obtain rfl := k0 (by omega)
      cases q1 with
      | false =>
        repeat' first
          | (refine WpOps.indexA _ rfl rfl rfl rfl rfl rfl rfl (by decide) (by decide) rfl ?_)
          | refine WpA.seq ?_
          | refine WpA.region ?_
          | refine WpOps.op _ rfl rfl rfl rfl rfl ?_
          | (refine WpOps.call rfl rfl rfl rfl rfl (by exact g1 _) ?_; rintro _ _ ⟨rfl, rfl⟩)
          | refine WpA.block ?_
          | refine WpOps.nil ?_
          | refine WpA.ret ?_
          | refine WpA.skip ?_
          | refine WpA.condT rfl ?_
        exact retK.ok rfl rfl rfl .int
      | true =>
        repeat' first
          | (refine WpOps.indexA _ rfl rfl rfl rfl rfl rfl rfl (by decide) (by decide) rfl ?_)
          | refine WpA.seq ?_
          | refine WpA.region ?_
          | refine WpOps.op _ rfl rfl rfl rfl rfl ?_
          | (refine WpOps.call rfl rfl rfl rfl rfl (by exact g1 _) ?_; rintro _ _ ⟨rfl, rfl⟩)
          | refine WpA.block ?_
          | refine WpOps.nil ?_
          | refine WpA.skip ?_
          | refine WpA.condT rfl ?_
          | refine WpA.condF rfl ?_
        exact ⟨2, ⟨by omega, fun _ => rfl, fun _ => rfl, by omega⟩, by decide, ⟨rfl, rfl, trivial⟩, rfl⟩
    | 2, _ =>
      obtain rfl := k0 (by omega)
      obtain rfl := k1 (by omega)
      cases q2 with
      | false =>
        repeat' first
          | (refine WpOps.indexA _ rfl rfl rfl rfl rfl rfl rfl (by decide) (by decide) rfl ?_)
          | refine WpA.seq ?_
          | refine WpA.region ?_
          | refine WpOps.op _ rfl rfl rfl rfl rfl ?_
          | (refine WpOps.call rfl rfl rfl rfl rfl (by exact g2 _) ?_; rintro _ _ ⟨rfl, rfl⟩)
          | refine WpA.block ?_
          | refine WpOps.nil ?_
          | refine WpA.ret ?_
          | refine WpA.skip ?_
          | refine WpA.condT rfl ?_
        exact retK.ok rfl rfl rfl .int
      | true =>
        repeat' first
          | (refine WpOps.indexA _ rfl rfl rfl rfl rfl rfl rfl (by decide) (by decide) rfl ?_)
          | refine WpA.seq ?_
          | refine WpA.region ?_
          | refine WpOps.op _ rfl rfl rfl rfl rfl ?_
          | (refine WpOps.call rfl rfl rfl rfl rfl (by exact g2 _) ?_; rintro _ _ ⟨rfl, rfl⟩)
          | refine WpA.block ?_
          | refine WpOps.nil ?_
          | refine WpA.skip ?_
          | refine WpA.condT rfl ?_
          | refine WpA.condF rfl ?_
        exact ⟨3, ⟨by omega, fun _ => rfl, fun _ => rfl, fun _ => rfl⟩, by decide, ⟨rfl, rfl, trivial⟩, rfl⟩
    | 3, _ =>
      obtain rfl := k0 (by omega)
      obtain rfl := k1 (by omega)
      obtain rfl := k2 (by omega)
      repeat' first
        | refine WpA.seq ?_
        | refine WpA.region ?_
        | refine WpOps.op _ rfl rfl rfl rfl rfl ?_
        | refine WpA.exit ?_
        | refine WpOps.nil ?_
        | refine WpA.ret ?_
        | refine WpA.condF rfl ?_
      exact retK.ok rfl rfl rfl .int
  · rw [if_pos hce]
    repeat' first
      | refine WpA.seq ?_
      | refine WpA.region ?_
      | refine WpOps.op _ rfl rfl rfl rfl rfl ?_
      | refine WpOps.box _ rfl rfl rfl rfl rfl ?_
      | (refine WpOps.call rfl rfl rfl rfl rfl (by exact hC _) ?_; rintro _ _ ⟨rfl, rfl⟩)
      | refine WpOps.nil ?_
      | refine WpA.ret ?_
      | refine WpA.skip ?_
      | refine WpA.cond _ rfl (fun h => ?_) (fun h => ?_)
    · exact retK.ok rfl rfl rfl .int
    all_goals (exact absurd (by simpa using h) hce)
def emptyR (r : Res) : Bool := decide ((((spRows r.v4).length : Nat) : Int) + ((spRows r.v6).length : Nat) + ((asRows r.sy).length : Nat) = 0)
theorem empty_A (r : Res) (H : List AObj) (hs : r.small) : CallsA E 28 [.agg r.cells] H (Is H (.bool (emptyR r))) := by
  have hl4 := spRows_len r.v4
  have hl6 := spRows_len r.v6
  have hla := asRows_len r.sy
  obtain ⟨h1, h2, h3⟩ := hs
  rw [← hl4] at h1
  rw [← hl6] at h2
  rw [← hla] at h3
  unfold emptyR Res.cells
  generalize spRows r.v4 = aa at *
  generalize spRows r.v6 = bb at *
  generalize asRows r.sy = dd at *
  refine .enter Tryz.func28 rfl rfl rfl 15 Tryz.ntmps28 (Nat.le_of_ble_eq_true rfl) ?_
  have e1 : IntKind.i64.wrap (((aa.length : Nat) : Int) + ((bb.length : Nat) : Int)) = ((aa.length : Nat) : Int) + ((bb.length : Nat) : Int) := wrap64 (by omega) (by omega)
  have e2 : IntKind.i64.wrap (((aa.length : Nat) : Int) + ((bb.length : Nat) : Int) + ((dd.length : Nat) : Int)) = ((aa.length : Nat) : Int) + ((bb.length : Nat) : Int) + ((dd.length : Nat) : Int) := wrap64 (by omega) (by omega)
  repeat' first
    | refine WpA.seq ?_
    | refine WpA.region ?_
    | refine WpOps.op _ rfl rfl rfl rfl rfl ?_
    | refine WpOps.box _ rfl rfl rfl rfl rfl ?_
    | refine WpOps.nil ?_
    | refine WpA.ret ?_
  refine retK.ok rfl rfl (congrArg AV.bool ?_) .bool
  rw [e1, e2]
  rfl
end Go.Gp.Tryz
