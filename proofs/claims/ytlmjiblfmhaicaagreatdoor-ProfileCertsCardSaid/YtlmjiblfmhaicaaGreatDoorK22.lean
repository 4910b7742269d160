/- Part of a proof: GhQ26, GhQ27, GhQ28 -/
import Derived.Test.YtlmjiblfmhaicaaGreatDoorK10
import Derived.Test.YtlmjiblfmhaicaaGreatDoorK20
import Derived.Test.YtlmjiblfmhaicaaGreatDoorK21

set_option linter.unusedSectionVars false

/- The reference's locators: Check. -/
namespace Go.Gp.Tryz
variable [Inhabited MaxLenT]
open Go.Proofs
set_option linter.unusedVariables false
set_option linter.unusedSimpArgs false
set_option linter.unusedSectionVars false
set_option maxHeartbeats 4000000

theorem all_take {α : Type} {p : α → Bool} {l : List α} (h : ∀ j (hj : j < l.length), p l[j] = true) : l.all p = true := List.all_eq_true.2 fun x hx => by
  obtain ⟨j, hj, rfl⟩ := List.mem_iff_getElem.1 hx
  exact h j hj
theorem refLCheck_A (l : Loc) (H : List AObj) (hl : LocSm l) : CallsA E 90 [.agg l.cells] H (Is H (.int .i64 (chkE l))) := by
  have hW := fun X h0 h1 => refWrite_A l X hl h0 h1
  have hHo := fun X => refHost_A l.host X hl.host
  have hU := fun X => usual_A l.sch X
  have hg := goodLoc_eq l
  have hlen := strRows_len l.parts
  have hpn := strRows_nil l.parts
  have hget := fun i h => strRows_at (l := l.parts) (i := i) h
  have hps := hl.parts
  have hm : decide ((((strRows l.parts).length : Nat) : Int) > 10) = decide (10 < l.parts.length) := by rw [hlen]; rw [decide_eq_decide]; omega
  have hall : l.parts.all name = !(l.parts.any fun s => !name s) := by rw [List.all_eq_not_any_not]
  rw [← hall] at hg
  have hc : chkE l = if decide (10 < l.parts.length) = true then 4 else if goodLoc l = false then 8 else if decide (((((wr l).length : Nat) : Int)) > 200) = true then 4 else 0 := by
    unfold chkE
    simp only [decide_eq_true_eq]
    by_cases h : 200 < (wr l).length
    · have h' : (((wr l).length : Nat) : Int) > 200 := by omega
      rw [if_pos h, if_pos h']
    · have h' : ¬ (((wr l).length : Nat) : Int) > 200 := by omega
      rw [if_neg h, if_neg h']
  refine .enter Tryz.func90 rfl rfl rfl 69 Tryz.ntmps90 (Nat.le_of_ble_eq_true rfl) ?_
  rw [hc]
  clear hc hl hall
  generalize wr l = W at *
  obtain ⟨sch, host, port, parts, dir⟩ := l
  dsimp only at *
  generalize hostOk host = ho at *
  generalize usualP sch = up at *
  generalize goodLoc ⟨sch, host, port, parts, dir⟩ = gd at *
  by_cases h10 : 10 < parts.length
  · have hm1 := hm.trans (decide_eq_true h10)
    rw [if_pos (decide_eq_true h10)]
    repeat' first
      | refine WpA.condT (congrArg AV.bool hm1) ?_
      | refine WpA.seq ?_
      | refine WpA.region ?_
      | refine WpOps.op _ rfl rfl rfl rfl rfl ?_
      | refine WpOps.box _ rfl rfl rfl rfl rfl ?_
      | refine WpOps.nil ?_
      | refine WpA.ret ?_
    exact retK.ok rfl rfl rfl .int
  · have hm1 := hm.trans (decide_eq_false h10)
    rw [if_neg (by simpa using h10)]
    obtain ⟨gp, hgp⟩ : ∃ gp, (((sch == 1) || (sch == 2)) && ho && decide (port ≥ 0) && decide (port ≤ 65535) && (port != up) && (decide ((((strRows parts).length : Nat) : Int) > 0) || dir)) = gp := ⟨_, rfl⟩
    rw [hgp] at hg
    have hgp' : gp = !(((!(sch == 1) && !(sch == 2)) || !ho || decide (port < 0) || decide (port > 65535) || (port == up) || (((((strRows parts).length : Nat) : Int) == 0) && !dir))) := by
      rw [← hgp]
      have e1 : decide (port ≥ 0) = !decide (port < 0) := by by_cases h : port < 0 <;> simp [h] <;> omega
      have e2 : decide (port ≤ 65535) = !decide (port > 65535) := by by_cases h : port > 65535 <;> simp [h] <;> omega
      have e3 : decide ((((strRows parts).length : Nat) : Int) > 0) = !((((strRows parts).length : Nat) : Int) == 0) := by
        rw [hlen]
        cases parts with
        | nil => rfl
        | cons a l => simp; omega
      rw [e1, e2, e3, bne]
      generalize (sch == 1) = b1
      generalize (sch == 2) = b2
      generalize decide (port < 0) = b3
      generalize decide (port > 65535) = b4
      generalize (port == up) = b5
      generalize ((((strRows parts).length : Nat) : Int) == 0) = b6
      cases b1 <;> cases b2 <;> cases ho <;> cases b3 <;> cases b4 <;> cases b5 <;> cases b6 <;> cases dir <;> rfl
    have hp0 : gp = true → 0 ≤ port ∧ port ≤ 65535 := fun h => by
      rw [h] at hgp
      simp only [Bool.and_eq_true, decide_eq_true_eq] at hgp
      exact ⟨hgp.1.1.1.2, hgp.1.1.2⟩
    clear hgp
    repeat' first
      | refine WpA.condF (congrArg AV.bool hm1) ?_
      | refine WpA.seq ?_
      | refine WpA.region ?_
      | refine WpOps.op _ rfl rfl rfl rfl rfl ?_
      | refine WpOps.box _ rfl rfl rfl rfl rfl ?_
      | refine WpOps.nil ?_
      | refine WpA.skip ?_
    refine WpA.joinS [(1, .ptr H.length 0 0), (50, .bool (!gp))] (H ++ [.cells [.int .u8 sch, .str host, .int .i64 port, .sl .no 1 (strRows parts), .bool dir]]) ?_ ?_
    · repeat' first
        | refine WpA.draw (by kernel_rfl) ?_
        | refine LexA.op _ rfl rfl rfl rfl rfl ?_
        | refine LexA.skip rfl rfl rfl ?_
        | refine LexA.call rfl rfl rfl rfl rfl (by exact hHo _) ?_
        | refine LexA.call rfl rfl rfl rfl rfl (by exact hU _) ?_
        | refine LexA.gsplit _ rfl rfl rfl (fun h => ?_) (fun h => ?_)
        | refine LexA.nil ?_
      all_goals
        refine ⟨⟨rfl, congrArg AV.bool ?_, trivial⟩, rfl⟩
        rw [hgp']
        clear hW hHo hU hget hm hm1 hp0 hg hgp'
        simp_all
    clear hgp'
    cases gp with
    | false =>
      rw [Bool.false_and] at hg
      rw [hg, if_pos rfl]
      repeat' first
        | refine WpA.seq ?_
        | refine WpA.region ?_
        | refine WpOps.op _ rfl rfl rfl rfl rfl ?_
        | refine WpOps.nil ?_
        | refine WpA.ret ?_
        | refine WpA.condT rfl ?_
      exact retK.ok rfl rfl rfl .int
    | true =>
      rw [Bool.true_and] at hg
      obtain ⟨hq0, hq1⟩ := hp0 rfl
      repeat' first
        | refine WpA.seq ?_
        | refine WpA.region ?_
        | refine WpOps.op _ rfl rfl rfl rfl rfl ?_
        | refine WpA.block ?_
        | refine WpOps.nil ?_
        | refine WpA.skip ?_
        | refine WpA.condF rfl ?_
      refine WpA.loopS (α := Nat) (fun i => [(1, .ptr H.length 0 0), (3, .int .i64 (i : Nat))]) (fun _ => H ++ [.cells [.int .u8 sch, .str host, .int .i64 port, .sl .no 1 (strRows parts), .bool dir]]) (fun i => i ≤ parts.length ∧ ∀ j (hj : j < i) (h2 : j < parts.length), name parts[j] = true) (fun i => parts.length - i) 0 ⟨Nat.zero_le _, fun j hj => absurd hj (by omega)⟩ ⟨rfl, rfl, trivial⟩ rfl (fun i hi => ?_)
      obtain ⟨hi1, hi2⟩ := hi
      by_cases hlt : i < parts.length
      · have hd : decide (((i : Nat) : Int) < (((strRows parts).length : Nat) : Int)) = true := decide_eq_true (by rw [hlen]; omega)
        have hgi := hget i hlt
        have hN := fun X => refName_A parts[i] X
        cases hq : name parts[i] with
        | false =>
          rw [hq] at hN
          have : gd = false := by
            rw [hg]
            cases hx : parts.all name with
            | false => rfl
            | true =>
              have := List.all_eq_true.1 hx _ (List.getElem_mem hlt)
              rw [hq] at this; cases this
          rw [this, if_pos rfl]
          repeat' first
            | refine WpA.condT (congrArg AV.bool hd) ?_
            | (refine WpOps.elem _ rfl rfl rfl rfl rfl rfl rfl rfl rfl (Int.natCast_nonneg i) hgi ?_)
            | refine WpA.seq ?_
            | refine WpA.region ?_
            | refine WpOps.op _ rfl rfl rfl rfl rfl ?_
            | (refine WpOps.call rfl rfl rfl rfl rfl (by exact hN _) ?_; rintro _ _ ⟨rfl, rfl⟩)
            | refine WpA.block ?_
            | refine WpOps.nil ?_
            | refine WpA.ret ?_
            | refine WpA.skip ?_
            | refine WpA.condT rfl ?_
          exact retK.ok rfl rfl rfl .int
        | true =>
          rw [hq] at hN
          repeat' first
            | refine WpA.condT (congrArg AV.bool hd) ?_
            | (refine WpOps.elem _ rfl rfl rfl rfl rfl rfl rfl rfl rfl (Int.natCast_nonneg i) hgi ?_)
            | refine WpA.seq ?_
            | refine WpA.region ?_
            | refine WpOps.op _ rfl rfl rfl rfl rfl ?_
            | (refine WpOps.call rfl rfl rfl rfl rfl (by exact hN _) ?_; rintro _ _ ⟨rfl, rfl⟩)
            | refine WpA.block ?_
            | refine WpOps.nil ?_
            | refine WpA.skip ?_
            | refine WpA.condF rfl ?_
          refine ⟨i + 1, ⟨hlt, fun j hj h2 => ?_⟩, by omega, ⟨rfl, congrArg (AV.int .i64) (wrap64 (by omega) (by omega)), trivial⟩, rfl⟩
          rcases Nat.lt_or_ge j i with h | h
          · exact hi2 j h h2
          · have : j = i := by omega
            subst this
            exact hq
      · have hd : decide (((i : Nat) : Int) < (((strRows parts).length : Nat) : Int)) = false := decide_eq_false (by rw [hlen]; omega)
        have : gd = true := by rw [hg]; exact all_take fun j hj => hi2 j (by omega) hj
        rw [this, if_neg (by decide)]
        have hW2 := fun X => hW X hq0 (by omega)
        repeat' first
          | refine WpA.condF (congrArg AV.bool hd) ?_
          | refine WpA.seq ?_
          | refine WpA.region ?_
          | refine WpOps.op _ rfl rfl rfl rfl rfl ?_
          | (refine WpOps.call rfl rfl rfl rfl rfl (by exact hW2 _) ?_; rintro _ _ ⟨rfl, rfl⟩)
          | refine WpA.exit ?_
          | refine WpOps.nil ?_
          | refine WpA.ret ?_
          | refine WpA.skip ?_
          | refine WpA.cond _ rfl (fun h => ?_) (fun h => ?_)
        · rename_i hx
          first
            | (rw [if_pos hx]; exact retK.ok rfl rfl rfl .int)
            | (rw [if_pos h]; exact retK.ok rfl rfl rfl .int)
        · first
            | (rw [if_neg (by simpa using h)]; exact retK.ok rfl rfl rfl .int)
end Go.Gp.Tryz

/- The reference's locators: Parse. -/
namespace Go.Gp.Tryz
variable [Inhabited MaxLenT]
open Go.Proofs
set_option linter.unusedVariables false
set_option linter.unusedSimpArgs false
set_option linter.unusedSectionVars false
set_option maxHeartbeats 4000000

theorem untilN_ge (s : List UInt8) (a b : UInt8) (i : Nat) : i ≤ untilN s a b i := Nat.le_add_right _ _
theorem untilN_le (s : List UInt8) (a b : UInt8) {i : Nat} (h : i ≤ s.length) : untilN s a b i ≤ s.length := by
  unfold untilN
  have := List.findIdx_le_length (xs := s.drop i) (p := fun c => c == a || c == b)
  rw [List.length_drop] at this
  omega
def portR (s : List UInt8) (a : Nat) : Option (Nat × Nat) :=
  if s[a]? = some 58 then if untilN s 47 47 a - a > 6 then none else (digV ((s.take (untilN s 47 47 a)).drop (a + 1)) 0).map fun v => (v, untilN s 47 47 a)
  else some (0, a)
theorem candR_eq {s : List UInt8} (h : ¬ (s.length < 9 ∨ 200 < s.length)) : candR s = if schR s = 0 then none else (portR s (untilN s 58 47 8)).map fun p => finR s ((s.take (untilN s 58 47 8)).drop 8) (p.1 : Nat) p.2 := by
  rw [candR, if_neg h, portR]
  split
  · rfl
  · split
    · split
      · rfl
      · rw [Option.map_map]; rfl
    · rfl
theorem schR_cases (s : List UInt8) : schR s = 1 ∧ s.take 8 = preS 1 ∨ schR s = 2 ∧ s.take 8 ≠ preS 1 ∧ s.take 8 = preS 2 ∨ schR s = 0 ∧ s.take 8 ≠ preS 1 ∧ s.take 8 ≠ preS 2 := by
  unfold schR
  by_cases h1 : s.take 8 = preS 1
  · left; rw [if_pos h1]; exact ⟨rfl, h1⟩
  · right
    rw [if_neg h1]
    by_cases h2 : s.take 8 = preS 2
    · left; rw [if_pos h2]; exact ⟨rfl, h1, h2⟩
    · right; rw [if_neg h2]; exact ⟨rfl, h1, h2⟩
theorem digV_lt : ∀ (l : List UInt8) (a u : Nat), digV l a = some u → u < (a + 1) * 10 ^ l.length
  | [], a, u, h => by injection h with h; subst h; simp
  | c :: l, a, u, h => by
    rw [digV] at h
    split at h
    · have ih := digV_lt l _ u h
      have hle : (10 * a + (c.toNat - 48) + 1) * 10 ^ l.length ≤ (10 * (a + 1)) * 10 ^ l.length := Nat.mul_le_mul_right _ (by omega)
      rw [List.length_cons, Nat.pow_succ]
      have e : (a + 1) * (10 ^ l.length * 10) = (10 * (a + 1)) * 10 ^ l.length := by
        rw [Nat.mul_comm (10 ^ l.length) 10, ← Nat.mul_assoc, Nat.mul_comm (a + 1) 10]
      rw [e]
      exact Nat.lt_of_lt_of_le ih hle
    · cases h
theorem portR_le {s : List UInt8} {a v k : Nat} (ha : a ≤ s.length) (h : portR s a = some (v, k)) : k ≤ s.length ∧ v ≤ 1000000 := by
  unfold portR at h
  split at h
  · split at h
    · cases h
    · rename_i h6
      obtain ⟨u, hu, hv⟩ := Option.map_eq_some_iff.1 h
      injection hv with hv hk
      subst hv; subst hk
      have hle := untilN_le s 47 47 ha
      refine ⟨hle, ?_⟩
      have := digV_lt _ _ _ hu
      have hl : ((s.take (untilN s 47 47 a)).drop (a + 1)).length ≤ 5 := by rw [List.length_drop, List.length_take]; omega
      have hp := Nat.pow_le_pow_right (n := 10) (by decide) hl
      omega
  · injection h with h
    injection h with hv hk
    subst hv; subst hk
    exact ⟨ha, by omega⟩
theorem refParse_A (s : List UInt8) (H : List AObj) (hs : s.length ≤ 1000000) : CallsA E 68 [.str s] H (Is H (locAV (parseE s).1 (parseE s).2)) := by
  rw [← parse_same]
  refine .enter Tryz.func68 rfl rfl rfl 121 Tryz.ntmps68 (Nat.le_of_ble_eq_true rfl) ?_
  by_cases h9 : s.length < 9 ∨ 200 < s.length
  · have he : finE (candR s) s = (Loc.zero, 12) := by rw [candR, if_pos h9]; rfl
    rw [he]
    rcases Nat.lt_or_ge s.length 9 with h | h
    · have hd : decide (((s.length : Nat) : Int) < 9) = true := decide_eq_true (by omega)
      have hgf : ¬ (decide (((s.length : Nat) : Int) < 9) = false) := by rw [hd]; decide
      repeat' first
        | exact absurd (by assumption) hgf
        | refine WpA.seq ?_
        | refine WpA.region ?_
        | refine WpOps.op _ rfl rfl rfl rfl rfl ?_
        | refine WpOps.alloc _ rfl rfl rfl rfl rfl rfl ?_
        | refine WpOps.store rfl rfl rfl rfl rfl rfl rfl rfl rfl rfl ?_
        | refine WpOps.skip rfl rfl rfl ?_
        | refine WpOps.gsplit _ rfl rfl rfl (fun h => ?_) (fun h => ?_)
        | refine WpOps.nil ?_
        | refine WpA.ret ?_
        | refine WpA.condT rfl ?_
      exact parse_fail rfl rfl
    · have hd : decide (((s.length : Nat) : Int) < 9) = false := decide_eq_false (by omega)
      have hgf : ¬ (decide (((s.length : Nat) : Int) < 9) = true) := by rw [hd]; decide
      have hd2 : decide (((s.length : Nat) : Int) > 200) = true := decide_eq_true (by omega)
      repeat' first
        | exact absurd (by assumption) hgf
        | refine WpA.condT (congrArg AV.bool hd2) ?_
        | refine WpA.seq ?_
        | refine WpA.region ?_
        | refine WpOps.op _ rfl rfl rfl rfl rfl ?_
        | refine WpOps.alloc _ rfl rfl rfl rfl rfl rfl ?_
        | refine WpOps.store rfl rfl rfl rfl rfl rfl rfl rfl rfl rfl ?_
        | refine WpOps.gsplit _ rfl rfl rfl (fun h => ?_) (fun h => ?_)
        | refine WpOps.nil ?_
        | refine WpA.ret ?_
      exact parse_fail rfl rfl
  have hd : decide (((s.length : Nat) : Int) < 9) = false := decide_eq_false (by omega)
  have hgf : ¬ (decide (((s.length : Nat) : Int) < 9) = true) := by rw [hd]; decide
  have hd2 : decide (((s.length : Nat) : Int) > 200) = false := decide_eq_false (by omega)
  have hc := candR_eq h9
  repeat' first
    | exact absurd (by assumption) hgf
    | refine WpA.condF (congrArg AV.bool hd2) ?_
    | (refine WpOps.p1 rfl rfl rfl (.sliceS 0 8 (s.take 8) rfl rfl rfl rfl ⟨_, _, rfl, by decide, rfl⟩ (by decide) (by omega) (by rw [List.drop_zero])) ?_)
    | refine WpA.seq ?_
    | refine WpA.region ?_
    | refine WpOps.op _ rfl rfl rfl rfl rfl ?_
    | refine WpOps.alloc _ rfl rfl rfl rfl rfl rfl ?_
    | refine WpOps.gsplit _ rfl rfl rfl (fun h => ?_) (fun h => ?_)
    | refine WpOps.nil ?_
    | refine WpA.skip ?_
  by_cases hsc : schR s = 0
  · have he : finE (candR s) s = (Loc.zero, 12) := by rw [hc, if_pos hsc]; rfl
    rw [he]
    rcases schR_cases s with ⟨h1, _⟩ | ⟨h1, _⟩ | ⟨_, h2, h3⟩
    · rw [h1] at hsc; cases hsc
    · rw [h1] at hsc; cases hsc
    · have e1 : (s.take 8 == [114, 115, 121, 110, 99, 58, 47, 47]) = false := beq_false_of_ne h2
      have e2 : (s.take 8 == [104, 116, 116, 112, 115, 58, 47, 47]) = false := beq_false_of_ne h3
      repeat' first
        | refine WpA.condF (congrArg AV.bool e1) ?_
        | refine WpA.condF (congrArg AV.bool e2) ?_
        | refine WpA.seq ?_
        | refine WpA.region ?_
        | refine WpOps.op _ rfl rfl rfl rfl rfl ?_
        | refine WpOps.store rfl rfl rfl rfl rfl rfl rfl rfl rfl rfl ?_
        | refine WpOps.build _ rfl rfl rfl rfl rfl ?_
        | refine WpA.block ?_
        | refine WpOps.nil ?_
        | refine WpA.ret ?_
      exact parse_fail rfl rfl
  rw [if_neg hsc] at hc
  refine WpA.joinS [(0, .str s), (2, .ptr H.length 0 0), (4, .ptr H.length 1 0)] (H ++ [.cells zeroC, .cells [.int .u8 (schR s), .str [], .int .i64 0, .sl .full 0 [], .bool false]]) ?_ ?_
  · rcases schR_cases s with ⟨h1, h2⟩ | ⟨h1, h2, h3⟩ | ⟨h1, _⟩
    · have e1 : (s.take 8 == [114, 115, 121, 110, 99, 58, 47, 47]) = true := by rw [h2]; rfl
      rw [h1]
      repeat' first
        | refine WpA.condT (congrArg AV.bool e1) ?_
        | refine WpA.seq ?_
        | refine WpA.region ?_
        | refine WpOps.op _ rfl rfl rfl rfl rfl ?_
        | refine WpOps.store rfl rfl rfl rfl rfl rfl rfl rfl rfl rfl ?_
        | refine WpA.block ?_
        | refine WpOps.nil ?_
      exact ⟨⟨rfl, rfl, rfl, trivial⟩, rfl⟩
    · have e1 : (s.take 8 == [114, 115, 121, 110, 99, 58, 47, 47]) = false := beq_false_of_ne h2
      have e2 : (s.take 8 == [104, 116, 116, 112, 115, 58, 47, 47]) = true := by rw [h3]; rfl
      rw [h1]
      repeat' first
        | refine WpA.condF (congrArg AV.bool e1) ?_
        | refine WpA.condT (congrArg AV.bool e2) ?_
        | refine WpA.seq ?_
        | refine WpA.region ?_
        | refine WpOps.op _ rfl rfl rfl rfl rfl ?_
        | refine WpOps.store rfl rfl rfl rfl rfl rfl rfl rfl rfl rfl ?_
        | refine WpA.block ?_
        | refine WpOps.nil ?_
      exact ⟨⟨rfl, rfl, rfl, trivial⟩, rfl⟩
    · exact absurd h1 hsc
  unfold finR at hc
  generalize schR s = sc at *
  have ha8 := untilN_ge s 58 47 8
  have hal := untilN_le s 58 47 (i := 8) (by omega)
  have hU : ∀ X, CallsA E 89 [.str s, .int .i64 8, .int .u8 58, .int .u8 47] X (Is X (.int .i64 (untilN s 58 47 8 : Nat))) := fun X => until_A s 58 47 8 X hs (by omega)
  generalize untilN s 58 47 8 = a at *
  obtain ⟨host, hhost⟩ : ∃ host, (s.take a).drop 8 = host := ⟨_, rfl⟩
  rw [hhost] at hc
  have hhl : host.length ≤ 200 := by rw [← hhost, List.length_drop, List.length_take]; omega
  refine WpA.cutS [(0, .str s), (2, .ptr H.length 0 0), (4, .ptr H.length 1 0), (5, .int .i64 (a : Nat))] (H ++ [.cells zeroC, .cells [.int .u8 sc, .str [], .int .i64 0, .sl .full 0 [], .bool false]]) ?_ ?_
  · repeat' first
      | refine WpA.region ?_
      | refine WpOps.op _ rfl rfl rfl rfl rfl ?_
      | (refine WpOps.call rfl rfl rfl rfl rfl (by exact hU _) ?_; rintro _ _ ⟨rfl, rfl⟩)
      | refine WpOps.nil ?_
    exact ⟨rfl, ⟨rfl, rfl, rfl, rfl, trivial⟩, rfl⟩
  refine WpA.cutS [(0, .str s), (2, .ptr H.length 0 0), (4, .ptr H.length 1 0), (5, .int .i64 (a : Nat))] (H ++ [.cells zeroC, .cells [.int .u8 sc, .str host, .int .i64 0, .sl .full 0 [], .bool false]]) ?_ ?_
  · repeat' first
      | (refine WpOps.p1 rfl rfl rfl (.sliceS 8 a host rfl rfl rfl ⟨_, _, rfl, by decide, rfl⟩ ⟨_, _, rfl, Int.natCast_nonneg _, rfl⟩ ha8 hal hhost) ?_)
      | refine WpA.region ?_
      | refine WpOps.op _ rfl rfl rfl rfl rfl ?_
      | refine WpOps.store rfl rfl rfl rfl rfl rfl rfl rfl rfl rfl ?_
      | refine WpOps.nil ?_
    exact ⟨rfl, ⟨rfl, rfl, rfl, rfl, trivial⟩, rfl⟩
  clear hU hhost
  refine WpA.seq ?_
  refine WpA.cutS [(0, .str s), (2, .ptr H.length 0 0), (4, .ptr H.length 1 0), (5, .int .i64 (a : Nat)), (42, .bool (s[a]? == some 58))] (H ++ [.cells zeroC, .cells [.int .u8 sc, .str host, .int .i64 0, .sl .full 0 [], .bool false]]) ?_ ?_
  · rcases Nat.lt_or_ge a s.length with h | h
    · have e1 : decide (((a : Nat) : Int) < ((s.length : Nat) : Int)) = true := decide_eq_true (by omega)
      have e2 : ¬ (decide (((a : Nat) : Int) < ((s.length : Nat) : Int)) = false) := by rw [e1]; decide
      have e3 : (((s[a].toNat : Nat) : Int) == 58) = (s[a]? == some 58) := by rw [List.getElem?_eq_getElem h]; exact ne_u8 s[a] 58
      repeat' first
        | exact absurd (by assumption) e2
        | (refine WpOps.indexS s[a] rfl rfl rfl rfl rfl rfl rfl (Int.natCast_nonneg a) (by simp) ?_)
        | refine WpA.region ?_
        | refine WpOps.op _ rfl rfl rfl rfl rfl ?_
        | refine WpOps.gsplit _ rfl rfl rfl (fun h => ?_) (fun h => ?_)
        | refine WpOps.nil ?_
      exact ⟨rfl, ⟨rfl, rfl, rfl, rfl, congrArg AV.bool e3, trivial⟩, rfl⟩
    · have e1 : decide (((a : Nat) : Int) < ((s.length : Nat) : Int)) = false := decide_eq_false (by omega)
      have e2 : ¬ (decide (((a : Nat) : Int) < ((s.length : Nat) : Int)) = true) := by rw [e1]; decide
      rw [List.getElem?_eq_none h]
      repeat' first
        | exact absurd (by assumption) e2
        | refine WpA.region ?_
        | refine WpOps.op _ rfl rfl rfl rfl rfl ?_
        | refine WpOps.skip rfl rfl rfl ?_
        | refine WpOps.gsplit _ rfl rfl rfl (fun h => ?_) (fun h => ?_)
        | refine WpOps.nil ?_
      exact ⟨rfl, ⟨rfl, rfl, rfl, rfl, rfl, trivial⟩, rfl⟩
  have hkl : ∀ v k, portR s a = some (v, k) → k ≤ s.length ∧ v ≤ 1000000 := fun v k h => portR_le hal h
  refine WpA.mono (K := fun x t' H' => (x = .ret ∧ portR s a = none ∧ ∃ L, H' = H ++ L ∧ resL L E.T t' [ResultVar.cell 2 61, ResultVar.tmp 3] = some [.agg zeroC, .int .i64 12] ∧ resN H.length t' [ResultVar.cell 2 61, ResultVar.tmp 3] = [ResultVar.cell 2 61, ResultVar.tmp 3].map (fun _ => H.length)) ∨
    (∃ v k, x = .normal ∧ portR s a = some (v, k) ∧ Agree [(0, .str s), (2, .ptr H.length 0 0), (4, .ptr H.length 1 0), (5, .int .i64 (k : Nat))] t' ∧ H' = H ++ [.cells zeroC, .cells [.int .u8 sc, .str host, .int .i64 (v : Nat), .sl .full 0 [], .bool false]])) ?_ (fun x t' H' h => ?_)
  · clear hc hkl
    by_cases h58 : s[a]? = some 58
    · have hb : (s[a]? == some 58) = true := by rw [h58]; rfl
      have hal2 : a < s.length := (List.getElem?_eq_some_iff.1 h58).1
      have hU : ∀ X, CallsA E 89 [.str s, .int .i64 (a : Nat), .int .u8 47, .int .u8 47] X (Is X (.int .i64 (untilN s 47 47 a : Nat))) := fun X => until_A s 47 47 a X hs hal
      have hpe : portR s a = if untilN s 47 47 a - a > 6 then none else (digV ((s.take (untilN s 47 47 a)).drop (a + 1)) 0).map fun v => (v, untilN s 47 47 a) := by rw [portR, if_pos h58]
      have hge : a + 1 ≤ untilN s 47 47 a := by
        have h1 : s[a] = 58 := by rw [List.getElem?_eq_getElem hal2] at h58; injection h58
        rw [untilN_next hal2 (by rw [h1]; rfl)]
        exact untilN_ge _ _ _ _
      have hle := untilN_le s 47 47 hal
      generalize untilN s 47 47 a = e at *
      obtain ⟨D, hD⟩ : ∃ D, digV ((s.take e).drop (a + 1)) 0 = D := ⟨_, rfl⟩
      rw [hD] at hpe
      have hw : IntKind.i64.wrap (((e : Nat) : Int) - ((a : Nat) : Int)) = ((e - a : Nat) : Int) := by rw [wrap64 (by omega) (by omega)]; omega
      by_cases h6 : e - a > 6
      · have hd6 : decide (IntKind.i64.wrap (((e : Nat) : Int) - ((a : Nat) : Int)) > 6) = true := decide_eq_true (by rw [hw]; omega)
        rw [if_pos h6] at hpe
        repeat' first
          | refine WpA.condT (congrArg AV.bool hb) ?_
          | refine WpA.condT (congrArg AV.bool hd6) ?_
          | refine WpA.seq ?_
          | refine WpA.region ?_
          | refine WpOps.op _ rfl rfl rfl rfl rfl ?_
          | refine WpOps.store rfl rfl rfl rfl rfl rfl rfl rfl rfl rfl ?_
          | refine WpOps.build _ rfl rfl rfl rfl rfl ?_
          | (refine WpOps.call rfl rfl rfl rfl rfl (by exact hU _) ?_; rintro _ _ ⟨rfl, rfl⟩)
          | refine WpOps.nil ?_
          | refine WpA.ret ?_
        exact .inl ⟨rfl, hpe, _, rfl, rfl, rfl⟩
      · have hd6 : decide (IntKind.i64.wrap (((e : Nat) : Int) - ((a : Nat) : Int)) > 6) = false := decide_eq_false (by rw [hw]; omega)
        rw [if_neg h6] at hpe
        repeat' first
          | refine WpA.condT (congrArg AV.bool hb) ?_
          | refine WpA.condF (congrArg AV.bool hd6) ?_
          | refine WpA.seq ?_
          | refine WpA.region ?_
          | refine WpOps.op _ rfl rfl rfl rfl rfl ?_
          | (refine WpOps.call rfl rfl rfl rfl rfl (by exact hU _) ?_; rintro _ _ ⟨rfl, rfl⟩)
          | refine WpA.block ?_
          | refine WpOps.nil ?_
          | refine WpA.skip ?_
        refine WpA.loopS (α := Nat × Nat) (fun p => [(0, .str s), (2, .ptr H.length 0 0), (4, .ptr H.length 1 0), (5, .int .i64 (a : Nat)), (6, .int .i64 (e : Nat)), (7, .int .i64 (p.1 : Nat))]) (fun p => H ++ [.cells zeroC, .cells [.int .u8 sc, .str host, .int .i64 (p.2 : Nat), .sl .full 0 [], .bool false]]) (fun p => a + 1 ≤ p.1 ∧ p.1 ≤ e ∧ digV ((s.take e).drop p.1) p.2 = D ∧ p.2 < 10 ^ (p.1 - (a + 1))) (fun p => e - p.1) (a + 1, 0)
          ⟨Nat.le_refl _, hge, hD, by simp⟩ ⟨rfl, rfl, rfl, rfl, rfl, congrArg (AV.int .i64) (wrap64 (by omega) (by omega)), trivial⟩ rfl (fun p hp => ?_)
        obtain ⟨i, v⟩ := p
        obtain ⟨hi1, hi2, hi3, hi4⟩ := hp
        dsimp only at hi1 hi2 hi3 hi4
        by_cases hlt : i < e
        · have hd : decide (((i : Nat) : Int) < ((e : Nat) : Int)) = true := decide_eq_true (by omega)
          have hil : i < s.length := by omega
          have hdrop : (s.take e).drop i = s[i] :: (s.take e).drop (i + 1) := by
            rw [List.drop_eq_getElem_cons (by rw [List.length_take]; omega), List.getElem_take]
          rw [hdrop, digV] at hi3
          have hsi : s[i]? = some s[i] := List.getElem?_eq_getElem hil
          have hlt256 := s[i].toNat_lt
          generalize s[i] = c at *
          clear hdrop
          by_cases hdig : 48 ≤ c.toNat ∧ c.toNat ≤ 57
          · have d1 : decide (((c.toNat : Nat) : Int) < 48) = false := decide_eq_false (by omega)
            have d2 : decide (((c.toNat : Nat) : Int) > 57) = false := decide_eq_false (by omega)
            have g1 : ¬ (decide (((c.toNat : Nat) : Int) < 48) = true) := by rw [d1]; decide
            rw [if_pos hdig] at hi3
            have hv5 : v < 100000 := Nat.lt_of_lt_of_le hi4 (Nat.pow_le_pow_right (by decide) (show i - (a + 1) ≤ 5 by omega))
            have hval : IntKind.i64.wrap (IntKind.i64.wrap (10 * ((v : Nat) : Int)) + IntKind.i64.wrap (IntKind.u8.wrap (((c.toNat : Nat) : Int) - 48))) = ((10 * v + (c.toNat - 48) : Nat) : Int) := by
              have e1 : IntKind.u8.wrap (((c.toNat : Nat) : Int) - 48) = ((c.toNat - 48 : Nat) : Int) := by
                show (((c.toNat : Nat) : Int) - 48) % 256 = _
                omega
              have e2 : IntKind.i64.wrap (10 * ((v : Nat) : Int)) = 10 * ((v : Nat) : Int) := wrap64 (by omega) (by omega)
              have e3 : IntKind.i64.wrap ((c.toNat - 48 : Nat) : Int) = ((c.toNat - 48 : Nat) : Int) := wrap64 (by omega) (by omega)
              rw [e1, e2, e3, wrap64 (by omega) (by omega)]
              omega
            repeat' first
              | exact absurd (by assumption) g1
              | refine WpA.condT (congrArg AV.bool hd) ?_
              | refine WpA.condF (congrArg AV.bool d2) ?_
              | (refine WpOps.indexS c rfl rfl rfl rfl rfl rfl rfl (Int.natCast_nonneg i) (by simpa using hsi) ?_)
              | refine WpA.drawI (id := 21) [H.length + 1] [0, 4, 0, 0, 0, 0, 0, 0, 0, 0, 2] (by kernel_rfl) (by kernel_rfl) ?_
              | (refine LexH.p0 rfl rfl rfl rfl (fun H0 => .indexS (b := c) rfl rfl rfl rfl (Int.natCast_nonneg i) (by simpa using hsi)) ?_)
              | refine WpA.seq ?_
              | refine WpA.region ?_
              | refine WpOps.op _ rfl rfl rfl rfl rfl ?_
              | refine WpOps.gsplit _ rfl rfl rfl (fun h => ?_) (fun h => ?_)
              | refine WpA.block ?_
              | refine WpOps.nil ?_
              | refine WpA.skip ?_
              | refine LexH.op0 _ rfl rfl rfl rfl rfl (fun _ => rfl) ?_
              | refine LexH.load4 _ rfl rfl rfl rfl rfl rfl (by simp) rfl rfl rfl rfl ?_
              | refine LexH.store rfl rfl rfl rfl rfl rfl rfl rfl rfl rfl rfl ?_
              | refine LexH.nil ?_
            refine ⟨(i + 1, 10 * v + (c.toNat - 48)), ⟨by dsimp only; omega, by dsimp only; omega, hi3, ?_⟩, by dsimp only; omega, ⟨rfl, rfl, rfl, rfl, rfl, congrArg (AV.int .i64) (wrap64 (by omega) (by omega)), trivial⟩, ?_⟩
            · dsimp only
              have e1 : i + 1 - (a + 1) = (i - (a + 1)) + 1 := by omega
              rw [e1, Nat.pow_succ]
              omega
            · dsimp only
              rw [← hval]
              rfl
          · rw [if_neg hdig] at hi3
            rw [← hi3] at hpe
            rcases Nat.lt_or_ge c.toNat 48 with hc48 | hc48
            · have d1 : decide (((c.toNat : Nat) : Int) < 48) = true := decide_eq_true (by omega)
              have g1 : ¬ (decide (((c.toNat : Nat) : Int) < 48) = false) := by rw [d1]; decide
              repeat' first
                | exact absurd (by assumption) g1
                | refine WpA.condT (congrArg AV.bool hd) ?_
                | (refine WpOps.indexS c rfl rfl rfl rfl rfl rfl rfl (Int.natCast_nonneg i) (by simpa using hsi) ?_)
                | refine WpA.seq ?_
                | refine WpA.region ?_
                | refine WpOps.op _ rfl rfl rfl rfl rfl ?_
                | refine WpOps.store rfl rfl rfl rfl rfl rfl rfl rfl rfl rfl ?_
                | refine WpOps.skip rfl rfl rfl ?_
                | refine WpOps.build _ rfl rfl rfl rfl rfl ?_
                | refine WpOps.gsplit _ rfl rfl rfl (fun h => ?_) (fun h => ?_)
                | refine WpA.block ?_
                | refine WpOps.nil ?_
                | refine WpA.ret ?_
                | refine WpA.skip ?_
                | refine WpA.condT rfl ?_
              exact .inl ⟨rfl, hpe, _, rfl, rfl, rfl⟩
            · have d1 : decide (((c.toNat : Nat) : Int) < 48) = false := decide_eq_false (by omega)
              have g1 : ¬ (decide (((c.toNat : Nat) : Int) < 48) = true) := by rw [d1]; decide
              have d2 : decide (((c.toNat : Nat) : Int) > 57) = true := decide_eq_true (by omega)
              repeat' first
                | exact absurd (by assumption) g1
                | refine WpA.condT (congrArg AV.bool hd) ?_
                | refine WpA.condT (congrArg AV.bool d2) ?_
                | (refine WpOps.indexS c rfl rfl rfl rfl rfl rfl rfl (Int.natCast_nonneg i) (by simpa using hsi) ?_)
                | refine WpA.seq ?_
                | refine WpA.region ?_
                | refine WpOps.op _ rfl rfl rfl rfl rfl ?_
                | refine WpOps.store rfl rfl rfl rfl rfl rfl rfl rfl rfl rfl ?_
                | refine WpOps.build _ rfl rfl rfl rfl rfl ?_
                | refine WpOps.gsplit _ rfl rfl rfl (fun h => ?_) (fun h => ?_)
                | refine WpA.block ?_
                | refine WpOps.nil ?_
                | refine WpA.ret ?_
                | refine WpA.skip ?_
              exact .inl ⟨rfl, hpe, _, rfl, rfl, rfl⟩
        · have hd : decide (((i : Nat) : Int) < ((e : Nat) : Int)) = false := decide_eq_false (by omega)
          obtain rfl : i = e := by omega
          rw [List.drop_eq_nil_of_le (by rw [List.length_take]; omega), digV] at hi3
          rw [← hi3] at hpe
          repeat' first
            | refine WpA.condF (congrArg AV.bool hd) ?_
            | refine WpA.seq ?_
            | refine WpA.region ?_
            | refine WpOps.op _ rfl rfl rfl rfl rfl ?_
            | refine WpA.exit ?_
            | refine WpOps.nil ?_
          exact .inr ⟨v, i, rfl, hpe, ⟨rfl, rfl, rfl, rfl, trivial⟩, rfl⟩
    · have hb : (s[a]? == some 58) = false := beq_false_of_ne h58
      have hpn : portR s a = some (0, a) := by rw [portR, if_neg h58]
      repeat' first
        | refine WpA.condF (congrArg AV.bool hb) ?_
        | refine WpA.skip ?_
      exact .inr ⟨0, a, rfl, hpn, ⟨rfl, rfl, rfl, rfl, trivial⟩, rfl⟩
  rcases h with ⟨rfl, hp, L, rfl, hr1, hr2⟩ | ⟨v, k, rfl, hp, hAg, rfl⟩
  · have he : finE (candR s) s = (Loc.zero, 12) := by rw [hc, hp]; rfl
    rw [he]
    exact parse_fail hr1 hr2
  · obtain ⟨hk1, hk2⟩ := hkl v k hp
    rw [hp, Option.map_some] at hc
    refine WpA.weak hAg ?_
    clear hAg hkl hp
    obtain ⟨ps, dd, hR⟩ : ∃ ps dd, rlF s.length (s.drop k) [] false = (ps, dd) := ⟨_, _, rfl⟩
    rw [hR] at hc
    dsimp only at hc
    refine WpA.adoptC (j := 1) (q := 3) 1 rfl rfl ?_
    refine WpA.seq ?_
    refine WpA.block ?_
    refine WpA.loopA (α := Nat × List (List UInt8) × Bool) (fun p => [(0, .str s), (2, .ptr H.length 0 0), (4, .ptr H.length 1 0), (5, .int .i64 (p.1 : Nat))])
      (fun p => H ++ [.cells zeroC, .cells [.int .u8 sc, .str host, .int .i64 (v : Nat), .sl (.row H.length 2) 1 (strRows p.2.1), .bool p.2.2], .tail (strRows p.2.1).length 1])
      (fun p => p.1 ≤ s.length ∧ (∃ fu, s.length - p.1 ≤ fu ∧ rlF fu (s.drop p.1) p.2.1 p.2.2 = (ps, dd)) ∧ p.2.1.length ≤ p.1 ∧ ∀ q ∈ p.2.1, q.length ≤ 200) (fun p => s.length - p.1) (k, [], false)
      ⟨hk1, ⟨s.length, by dsimp only; omega, hR⟩, by simp, by simp⟩ ⟨rfl, rfl, rfl, rfl, trivial⟩ rfl (fun _ _ => by simp) (fun a a' _ _ => ?_) (fun a a' _ => ?_) (fun _ => ⟨rfl, rfl, rfl, rfl, trivial⟩) (fun p hp => ?_)
    · refine TrOk.app fun j x hj => ?_
      rcases j with _ | _ | _ | j
      · exact .inl hj
      · injection hj with hj; subst hj; exact .inr (obd_cells (by
          intro x hx
          simp only [List.mem_cons, List.not_mem_nil, or_false] at hx
          rcases hx with rfl | rfl | rfl | rfl | rfl
          · exact .int
          · exact .str
          · exact .int
          · refine .sl (fun _ _ e => by cases e; simp) fun x hx e he => ?_
            obtain ⟨q, _, rfl⟩ := List.mem_map.1 hx
            have := List.mem_singleton.1 he
            subst this
            exact .str
          · exact .bool))
      · injection hj with hj; subst hj; exact .inr obd_tail
      · cases hj
    · exact ⟨.str, .ptr (by simp), .ptr (by simp), .int, trivial⟩
    obtain ⟨i, qs, d⟩ := p
    obtain ⟨hi1, ⟨fu, hfu, hfr⟩, hi3, hi4⟩ := hp
    dsimp only at hi1 hfu hfr hi3 hi4
    by_cases hlt : i < s.length
    · have hdl : decide (((i : Nat) : Int) < ((s.length : Nat) : Int)) = true := decide_eq_true (by omega)
      have hw1 : IntKind.i64.wrap (((i : Nat) : Int) + 1) = ((i + 1 : Nat) : Int) := by rw [wrap64 (by omega) (by omega)]; omega
      have hU : ∀ X, CallsA E 89 [.str s, .int .i64 (IntKind.i64.wrap (((i : Nat) : Int) + 1)), .int .u8 47, .int .u8 47] X (Is X (.int .i64 (untilN s 47 47 (i + 1) : Nat))) := fun X => by rw [hw1]; exact until_A s 47 47 (i + 1) X hs (by omega)
      have he1 := untilN_ge s 47 47 (i + 1)
      have he2 := untilN_le s 47 47 (i := i + 1) (by omega)
      have heq : untilN s 47 47 (i + 1) = i + 1 + (s.drop (i + 1)).findIdx slashB := rfl
      obtain ⟨fu', rfl⟩ : ∃ fu', fu = fu' + 1 := ⟨fu - 1, by omega⟩
      rw [List.drop_eq_getElem_cons hlt, rlF] at hfr
      generalize untilN s 47 47 (i + 1) = e at *
      by_cases hend : i + 1 = s.length
      · have hnil : s.drop (i + 1) = [] := List.drop_eq_nil_of_le (by omega)
        rw [if_pos hnil] at hfr
        have ee : e = i + 1 := by omega
        subst ee
        have d1 : ((((i + 1 : Nat) : Nat) : Int) == IntKind.i64.wrap (((i : Nat) : Int) + 1)) = true := by rw [hw1]; simp
        have d2 : ((((i + 1 : Nat) : Nat) : Int) == ((s.length : Nat) : Int)) = true := by rw [hend]; simp
        have g1 : ¬ (((((i + 1 : Nat) : Nat) : Int) == IntKind.i64.wrap (((i : Nat) : Int) + 1)) = false) := by rw [d1]; decide
        repeat' first
          | exact absurd (by assumption) g1
          | refine WpA.condT (congrArg AV.bool hdl) ?_
          | refine WpA.condT (congrArg AV.bool d2) ?_
          | refine WpA.seq ?_
          | refine WpA.region ?_
          | refine WpOps.op _ rfl rfl rfl rfl rfl ?_
          | refine WpOps.store rfl rfl rfl rfl rfl rfl rfl rfl rfl rfl ?_
          | (refine WpOps.call rfl rfl rfl rfl rfl (by exact hU _) ?_; rintro _ _ ⟨rfl, rfl⟩)
          | refine WpOps.gsplit _ rfl rfl rfl (fun h => ?_) (fun h => ?_)
          | refine WpA.block ?_
          | refine WpOps.nil ?_
          | refine WpA.skip ?_
        refine ⟨(i + 1, qs, true), ⟨he2, ⟨fu', by dsimp only; omega, by dsimp only; rw [hnil]; exact hfr⟩, by dsimp only; omega, hi4⟩, by dsimp only; omega, ⟨rfl, rfl, rfl, rfl, trivial⟩, [], (List.append_nil _).symm⟩
      · have hne : s.drop (i + 1) ≠ [] := fun h => by have := congrArg List.length h; rw [List.length_drop] at this; simp at this; omega
        rw [if_neg hne] at hfr
        obtain ⟨pt, hpt⟩ : ∃ pt, (s.take e).drop (i + 1) = pt := ⟨_, rfl⟩
        have h1 : (s.drop (i + 1)).take ((s.drop (i + 1)).findIdx slashB) = pt := by
          rw [← hpt, List.drop_take]
          congr 1; omega
        have h2 : (s.drop (i + 1)).drop ((s.drop (i + 1)).findIdx slashB) = s.drop e := by rw [List.drop_drop]; congr 1; omega
        rw [h1, h2] at hfr
        have hptl : pt.length ≤ 200 := by rw [← hpt, List.length_drop, List.length_take]; omega
        have hsr : strRows (qs ++ [pt]) = strRows qs ++ [[.str pt]] := by rw [strRows, List.map_append]; rfl
        have hbad : (((e : Nat) : Int) == IntKind.i64.wrap (((i : Nat) : Int) + 1)) = true → (((e : Nat) : Int) == ((s.length : Nat) : Int)) = false := fun h => by
          rw [hw1] at h
          have h' : ((e : Nat) : Int) = ((i + 1 : Nat) : Int) := by simpa using h
          refine beq_false_of_ne ?_
          omega
        repeat' first
          | refine WpA.condT (congrArg AV.bool hdl) ?_
          | refine WpA.drawI (id := 27) [H.length + 1] [0, 4, 0, 0, 0, 0, 0, 0, 3, 0, 2] (by kernel_rfl) (by kernel_rfl) ?_
          | (refine LexH.p0 rfl rfl rfl rfl (fun H0 => .sliceS (i + 1) e pt rfl rfl rfl ⟨_, _, rfl, by rw [hw1]; exact Int.natCast_nonneg _, by rw [hw1]; rfl⟩ ⟨_, _, rfl, Int.natCast_nonneg _, rfl⟩ he1 he2 hpt) ?_)
          | (refine LexH.appR3 rfl rfl rfl rfl rfl rfl rfl rfl (fun k h => by cases h) rfl rfl rfl rfl rfl rfl (by intro y hy a ha; have := List.mem_singleton.1 hy; subst this; have := List.mem_singleton.1 ha; subst this; rfl) (by rw [strRows_len]; show (qs.length + 1) * 16 ≤ _; omega) (by exact Like.one fun _ h => h) ?_)
          | refine WpA.seq ?_
          | refine WpA.region ?_
          | refine WpOps.op _ rfl rfl rfl rfl rfl ?_
          | refine WpOps.store rfl rfl rfl rfl rfl rfl rfl rfl rfl rfl ?_
          | refine WpOps.skip rfl rfl rfl ?_
          | (refine WpOps.call rfl rfl rfl rfl rfl (by exact hU _) ?_; rintro _ _ ⟨rfl, rfl⟩)
          | refine WpOps.gsplit _ rfl rfl rfl (fun h => ?_) (fun h => ?_)
          | refine WpA.block ?_
          | refine WpOps.nil ?_
          | refine WpA.skip ?_
          | refine WpA.condF rfl ?_
          | refine WpA.cond _ rfl (fun h => ?_) (fun h => ?_)
          | refine LexH.op0 _ rfl rfl rfl rfl rfl (fun _ => rfl) ?_
          | refine LexH.load4 _ rfl rfl rfl rfl rfl rfl (by simp) rfl rfl rfl rfl ?_
          | refine LexH.buildSlice _ rfl rfl rfl rfl rfl rfl rfl rfl rfl rfl rfl rfl ?_
          | refine LexH.store rfl rfl rfl rfl rfl rfl rfl rfl rfl rfl rfl ?_
          | refine LexH.nil ?_
        all_goals
          have hpl : ∀ q ∈ qs ++ [pt], q.length ≤ 200 := fun q hq => by
            rcases List.mem_append.1 hq with hq | hq
            · exact hi4 q hq
            · have := List.mem_singleton.1 hq; subst this; exact hptl
        · exact absurd (show ((((e : Nat) : Int) == ((s.length : Nat) : Int)) = true) from h) (by rw [hbad (by assumption)]; decide)
        all_goals
          refine ⟨(e, qs ++ [pt], d), ⟨he2, ⟨fu', by dsimp only; omega, hfr⟩, by dsimp only; simp; omega, hpl⟩, by dsimp only; omega, ⟨rfl, rfl, rfl, rfl, trivial⟩, [], ?_⟩
          dsimp only
          rw [hsr]
          exact (List.append_nil _).symm
    · have hdl : decide (((i : Nat) : Int) < ((s.length : Nat) : Int)) = false := decide_eq_false (by omega)
      have hps : qs = ps ∧ d = dd := by
        rw [List.drop_eq_nil_of_le (by omega), rlF_nil] at hfr
        injection hfr with e1 e2
        exact ⟨e1, e2⟩
      obtain ⟨rfl, rfl⟩ := hps
      have hsm : LocSm ⟨sc, host, (v : Nat), qs, d⟩ := ⟨by dsimp only; omega, by dsimp only; omega, by dsimp only; omega, by dsimp only; omega, by have := join_bound qs hi4; dsimp only; omega⟩
      have hsub : SubL [.agg [.int .u8 sc, .str host, .int .i64 (v : Nat), .sl (.row H.length 2) 1 (strRows qs), .bool d]] [.agg (Loc.cells ⟨sc, host, (v : Nat), qs, d⟩)] := ⟨Sub.agg (vs := [.int .u8 sc, .str host, .int .i64 (v : Nat), .sl .no 1 (strRows qs), .bool d]) ⟨Sub.refl _, Sub.refl _, Sub.refl _, Sub.untag, Sub.refl _, trivial⟩, trivial⟩
      have hCk := fun X => (refLCheck_A ⟨sc, host, (v : Nat), qs, d⟩ X hsm).subL hsub
      have hWr := fun X => (refWrite_A ⟨sc, host, (v : Nat), qs, d⟩ X hsm (by dsimp only; omega) (by dsimp only; omega)).subL hsub
      have hfin : finE (candR s) s = if chkE ⟨sc, host, (v : Nat), qs, d⟩ = 0 ∧ wr ⟨sc, host, (v : Nat), qs, d⟩ = s then (⟨sc, host, (v : Nat), qs, d⟩, 0) else (Loc.zero, 12) := by rw [hc]; rfl
      generalize chkE ⟨sc, host, (v : Nat), qs, d⟩ = ck at *
      generalize wr ⟨sc, host, (v : Nat), qs, d⟩ = ws at *
      rw [hfin]
      clear hfin hc
      repeat' first
        | refine WpA.condF (congrArg AV.bool hdl) ?_
        | refine WpA.seq ?_
        | refine WpA.region ?_
        | refine WpOps.op _ rfl rfl rfl rfl rfl ?_
        | refine WpOps.store rfl rfl rfl rfl rfl rfl rfl rfl rfl rfl ?_
        | refine WpOps.skip rfl rfl rfl ?_
        | refine WpOps.build _ rfl rfl rfl rfl rfl ?_
        | (refine WpOps.call rfl rfl rfl rfl rfl (by exact hCk _) ?_; rintro _ _ ⟨rfl, rfl⟩)
        | (refine WpOps.call rfl rfl rfl rfl rfl (by exact hWr _) ?_; rintro _ _ ⟨rfl, rfl⟩)
        | refine WpOps.gsplit _ rfl rfl rfl (fun h => ?_) (fun h => ?_)
        | refine WpA.exit ?_
        | refine WpOps.nil ?_
        | refine WpA.ret ?_
        | refine WpA.skip ?_
        | refine WpA.condT rfl ?_
        | refine WpA.cond _ rfl (fun h => ?_) (fun h => ?_)
      all_goals clear hCk hWr
      all_goals first
        | (have hne : ¬ (ck = 0 ∧ ws = s) := by simp_all
           rw [if_neg hne]
           exact parse_fail rfl rfl)
        | (have hok : ck = 0 ∧ ws = s := by simp_all
           rw [if_pos hok]
           exact retK.sub (.inr rfl) rfl (TrOk.refl H) (L := _) rfl rfl (Sub.tup (vs := [.agg (Loc.cells ⟨sc, host, (v : Nat), qs, d⟩), .int .i64 0]) ⟨hsub.1, Sub.refl _, trivial⟩) (loc_bd _ ⟨sc, host, (v : Nat), qs, d⟩ 0) ⟨rfl, rfl⟩)
end Go.Gp.Tryz

/- Locators: kinds of names, and the last part of a locator. -/
namespace Go.Gp.Tryz
variable [Inhabited MaxLenT]
open Go.Proofs
set_option linter.unusedVariables false
set_option linter.unusedSimpArgs false
set_option linter.unusedSectionVars false
set_option maxHeartbeats 4000000

abbrev cerS : List UInt8 := [46, 99, 101, 114]
abbrev crlS : List UInt8 := [46, 99, 114, 108]
abbrev mftS : List UInt8 := [46, 109, 102, 116]
abbrev roaS : List UInt8 := [46, 114, 111, 97]
abbrev asaS : List UInt8 := [46, 97, 115, 97]
def extK (x : List UInt8) : Int := if x = cerS then 1 else if x = crlS then 2 else if x = mftS then 3 else if x = roaS then 4 else if x = asaS then 5 else 0
def kindE (s : List UInt8) : Int := if name s = false ∨ s.length < 5 then 0 else extK (s.drop (s.length - 4))
abbrev endsM : List AEntry := [(.str cerS, .int .u8 1, 0), (.str crlS, .int .u8 2, 1), (.str mftS, .int .u8 3, 2), (.str roaS, .int .u8 4, 3), (.str asaS, .int .u8 5, 4)]
theorem endsLook {ei : TI} (h : zeroV ei = .int .u8 0) (a : List UInt8) : (lookM ei endsM (.str a)).1 = .int .u8 (extK a) := by
  unfold extK
  by_cases h1 : a = cerS
  · subst h1; rfl
  rw [if_neg h1]
  by_cases h2 : a = crlS
  · subst h2; rfl
  rw [if_neg h2]
  by_cases h3 : a = mftS
  · subst h3; rfl
  rw [if_neg h3]
  by_cases h4 : a = roaS
  · subst h4; rfl
  rw [if_neg h4]
  by_cases h5 : a = asaS
  · subst h5; rfl
  rw [if_neg h5]
  have hf : findA (.str a) endsM = none := by
    have e1 : (a == cerS) = false := beq_false_of_ne h1
    have e2 : (a == crlS) = false := beq_false_of_ne h2
    have e3 : (a == mftS) = false := beq_false_of_ne h3
    have e4 : (a == roaS) = false := beq_false_of_ne h4
    have e5 : (a == asaS) = false := beq_false_of_ne h5
    simp only [endsM, findA, keyB, e1, e2, e3, e4, e5, cond_false, Option.map_none]
  rw [lookM, hf]
  exact h
theorem ends_A (H : List AObj) : CallsA E 153 [] H (fun e H' => H' = H ++ [.map endsM 5] ∧ e = .ret (.map H.length 0)) := by
  have hk : ∀ es : List AEntry, (∀ e ∈ es, ∃ s, e.1 = .str s) → ∀ e ∈ es, keyK TD.str e.1 = true := fun es h e he => by obtain ⟨s, hs⟩ := h e he; rw [hs]; rfl
  have h0 : ∀ e ∈ endsM, ∃ s, e.1 = .str s := by
    intro e he
    simp only [endsM, List.mem_cons, List.not_mem_nil, or_false] at he
    rcases he with rfl | rfl | rfl | rfl | rfl <;> exact ⟨_, rfl⟩
  have hk0 := fun k => hk (endsM.take k) (fun e he => h0 e (List.mem_of_mem_take he))
  refine .enter Tryz.func153 rfl rfl rfl 3 Tryz.ntmps153 (Nat.le_of_ble_eq_true rfl) ?_
  repeat' first
    | refine WpA.seq ?_
    | refine WpA.region ?_
    | refine WpOps.op _ rfl rfl rfl rfl rfl ?_
    | (refine WpOps.p1 rfl rfl rfl (.makeMap rfl) ?_)
    | (refine WpOps.u1h (H ++ [.map (endsM.take 1) 1]) rfl rfl (.mapUpdate (.inr rfl) rfl rfl (app_get (j := 0) rfl rfl) rfl rfl rfl (hk0 0)) (by rw [set_app]; rfl) ?_)
    | (refine WpOps.u1h (H ++ [.map (endsM.take 2) 2]) rfl rfl (.mapUpdate (.inr rfl) rfl rfl (app_get (j := 0) rfl rfl) rfl rfl rfl (hk0 1)) (by rw [set_app]; rfl) ?_)
    | (refine WpOps.u1h (H ++ [.map (endsM.take 3) 3]) rfl rfl (.mapUpdate (.inr rfl) rfl rfl (app_get (j := 0) rfl rfl) rfl rfl rfl (hk0 2)) (by rw [set_app]; rfl) ?_)
    | (refine WpOps.u1h (H ++ [.map (endsM.take 4) 4]) rfl rfl (.mapUpdate (.inr rfl) rfl rfl (app_get (j := 0) rfl rfl) rfl rfl rfl (hk0 3)) (by rw [set_app]; rfl) ?_)
    | (refine WpOps.u1h (H ++ [.map endsM 5]) rfl rfl (.mapUpdate (.inr rfl) rfl rfl (app_get (j := 0) rfl rfl) rfl rfl rfl (hk0 4)) (by rw [set_app]; rfl) ?_)
    | refine WpOps.nil ?_
    | refine WpA.ret ?_
  exact retK.all (.inr rfl) rfl rfl (Sub.refl _) ⟨rfl, rfl⟩
theorem Kind_A (s : List UInt8) (H : List AObj) (hs : s.length ≤ 1000000) : CallsA E 137 [.str s] H (Is H (.int .u8 (kindE s))) := by
  have hN := fun X => Name_A s X
  have hk : kindE s = if name s = false ∨ s.length < 5 then 0 else extK (s.drop (s.length - 4)) := rfl
  refine .enter Tryz.func137 rfl rfl rfl 18 Tryz.ntmps137 (Nat.le_of_ble_eq_true rfl) ?_
  rw [hk]
  clear hk
  generalize name s = nm at *
  cases nm with
  | false =>
    rw [if_pos (.inl rfl)]
    repeat' first
      | refine WpA.seq ?_
      | refine WpA.region ?_
      | refine WpOps.op _ rfl rfl rfl rfl rfl ?_
      | refine WpOps.skip rfl rfl rfl ?_
      | (refine WpOps.call rfl rfl rfl rfl rfl (by exact hN _) ?_; rintro _ _ ⟨rfl, rfl⟩)
      | refine WpOps.nil ?_
      | refine WpA.ret ?_
      | refine WpA.condT rfl ?_
    exact retK.ok rfl rfl rfl .int
  | true =>
    by_cases h5 : s.length < 5
    · have hd : decide (((s.length : Nat) : Int) < 5) = true := decide_eq_true (by omega)
      rw [if_pos (.inr h5)]
      repeat' first
        | refine WpA.condT (congrArg AV.bool hd) ?_
        | refine WpA.seq ?_
        | refine WpA.region ?_
        | refine WpOps.op _ rfl rfl rfl rfl rfl ?_
        | (refine WpOps.call rfl rfl rfl rfl rfl (by exact hN _) ?_; rintro _ _ ⟨rfl, rfl⟩)
        | refine WpOps.nil ?_
        | refine WpA.ret ?_
      exact retK.ok rfl rfl rfl .int
    · have hd : decide (((s.length : Nat) : Int) < 5) = false := decide_eq_false (by omega)
      rw [if_neg (fun h => by rcases h with h | h; cases h; exact h5 h)]
      have hw : IntKind.i64.wrap (((s.length : Nat) : Int) - 4) = ((s.length - 4 : Nat) : Int) := by rw [wrap64 (by omega) (by omega)]; omega
      have hk0 : ∀ e ∈ endsM, keyK TD.str e.1 = true := by
        intro e he
        simp only [endsM, List.mem_cons, List.not_mem_nil, or_false] at he
        rcases he with rfl | rfl | rfl | rfl | rfl <;> rfl
      have hy : (s.take s.length).drop (s.length - 4) = s.drop (s.length - 4) := by rw [List.take_length]
      repeat' first
        | refine WpA.condF (congrArg AV.bool hd) ?_
        | refine WpA.drawI (id := 3) [] [6, 0, 0, 0, 0, 0, 1, 0] (by kernel_rfl) (by kernel_rfl) ?_
        | refine WpA.seq ?_
        | refine WpA.region ?_
        | refine WpOps.op _ rfl rfl rfl rfl rfl ?_
        | (refine WpOps.call rfl rfl rfl rfl rfl (by exact hN _) ?_; rintro _ _ ⟨rfl, rfl⟩)
        | (refine LexH.call6 [.map endsM 5] rfl rfl rfl rfl rfl rfl (by intro H0 h0; have h0' : H0.length = H.length := (by simpa using h0); have := ends_A H0; rw [h0'] at this; exact this) (by intro x hx z h; have := List.mem_singleton.1 hx; subst this; cases h) ?_)
        | (refine LexH.p0 rfl rfl rfl rfl (fun H0 => .sliceS (s.length - 4) s.length (s.drop (s.length - 4)) rfl rfl rfl ⟨_, _, rfl, by rw [hw]; exact Int.natCast_nonneg _, by rw [hw]; rfl⟩ rfl (by omega) (Nat.le_refl _) hy) ?_)
        | (refine LexH.p1 rfl rfl rfl rfl (.lookupV rfl rfl rfl (app_get (j := 0) rfl rfl) rfl rfl hk0 (endsLook rfl _)) ?_)
        | refine WpOps.nil ?_
        | refine WpA.ret ?_
        | refine WpA.skip ?_
        | refine LexH.op0 _ rfl rfl rfl rfl rfl (fun _ => rfl) ?_
        | refine LexH.nil ?_
      exact retK.ok rfl rfl rfl .int
theorem refKind_A (s : List UInt8) (H : List AObj) (hs : s.length ≤ 1000000) : CallsA E 95 [.str s] H (Is H (.int .u8 (kindE s))) := by
  have hN := fun X => refName_A s X
  have hk : kindE s = if name s = false ∨ s.length < 5 then 0 else extK (s.drop (s.length - 4)) := rfl
  refine .enter Tryz.func95 rfl rfl rfl 26 Tryz.ntmps95 (Nat.le_of_ble_eq_true rfl) ?_
  rw [hk]
  clear hk
  generalize name s = nm at *
  cases nm with
  | false =>
    rw [if_pos (.inl rfl)]
    repeat' first
      | refine WpA.seq ?_
      | refine WpA.region ?_
      | refine WpOps.op _ rfl rfl rfl rfl rfl ?_
      | refine WpOps.skip rfl rfl rfl ?_
      | (refine WpOps.call rfl rfl rfl rfl rfl (by exact hN _) ?_; rintro _ _ ⟨rfl, rfl⟩)
      | refine WpOps.nil ?_
      | refine WpA.ret ?_
      | refine WpA.condT rfl ?_
    exact retK.ok rfl rfl rfl .int
  | true =>
    by_cases h5 : s.length < 5
    · have hd : decide (((s.length : Nat) : Int) < 5) = true := decide_eq_true (by omega)
      rw [if_pos (.inr h5)]
      repeat' first
        | refine WpA.condT (congrArg AV.bool hd) ?_
        | refine WpA.seq ?_
        | refine WpA.region ?_
        | refine WpOps.op _ rfl rfl rfl rfl rfl ?_
        | (refine WpOps.call rfl rfl rfl rfl rfl (by exact hN _) ?_; rintro _ _ ⟨rfl, rfl⟩)
        | refine WpOps.nil ?_
        | refine WpA.ret ?_
      exact retK.ok rfl rfl rfl .int
    · have hd : decide (((s.length : Nat) : Int) < 5) = false := decide_eq_false (by omega)
      rw [if_neg (fun h => by rcases h with h | h; cases h; exact h5 h)]
      have hw : IntKind.i64.wrap (((s.length : Nat) : Int) - 4) = ((s.length - 4 : Nat) : Int) := by rw [wrap64 (by omega) (by omega)]; omega
      have hy : (s.take s.length).drop (s.length - 4) = s.drop (s.length - 4) := by rw [List.take_length]
      obtain ⟨x, hx⟩ : ∃ x, s.drop (s.length - 4) = x := ⟨_, rfl⟩
      rw [hx] at hy ⊢
      have hq : ∀ y : List UInt8, (x == y) = decide (x = y) := fun y => by rw [Bool.eq_iff_iff]; simp
      repeat' first
        | refine WpA.condF (congrArg AV.bool hd) ?_
        | refine WpA.seq ?_
        | refine WpA.region ?_
        | refine WpOps.op _ rfl rfl rfl rfl rfl ?_
        | (refine WpOps.call rfl rfl rfl rfl rfl (by exact hN _) ?_; rintro _ _ ⟨rfl, rfl⟩)
        | (refine WpOps.p1 rfl rfl rfl (.sliceS (s.length - 4) s.length x rfl rfl rfl ⟨_, _, rfl, by rw [hw]; exact Int.natCast_nonneg _, by rw [hw]; rfl⟩ rfl (by omega) (Nat.le_refl _) hy) ?_)
        | refine WpA.block ?_
        | refine WpOps.nil ?_
        | refine WpA.ret ?_
        | refine WpA.skip ?_
        | refine WpA.cond _ rfl (fun h => ?_) (fun h => ?_)
      all_goals
        refine retK.ok rfl rfl (congrArg (AV.int .u8) ?_) .int
        clear hN hd hw hy hx
        unfold extK
        simp_all
end Go.Gp.Tryz
