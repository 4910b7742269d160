/- Part of a proof: GpR7, GpR8, GpP2 -/
import Derived.Test.YtmacdhglhafldaaK22

/- The reference's octets: take, Decode. -/
namespace Go.Gp.Try
open Go.Proofs
set_option linter.unusedVariables false
set_option linter.unusedSimpArgs false
set_option maxHeartbeats 4000000
set_option maxRecDepth 100000

/-- No tag is nought. -/
def Oct.clean : Oct → Bool
  | .mk t _ is => t != 0 && (is.attach.map fun x => x.1.clean).all id
termination_by o => SizeOf.sizeOf o
decreasing_by have := List.sizeOf_lt_of_mem x.2; simp only [Oct.mk.sizeOf_spec]; omega
theorem clean_mk (t : UInt8) (bs : List UInt8) (is : List Oct) : (Oct.mk t bs is).clean = (t != 0 && (is.map Oct.clean).all id) := by rw [Oct.clean, List.attach_map_val (f := Oct.clean)]

/-- What the reference takes. -/
def tk (k : Nat) (b : List UInt8) : Option (Oct × List UInt8) := match parse k b with
  | some (o, r) => if o.clean then some (o, r) else none
  | none => none
def tkAll (k : Nat) (b : List UInt8) : Option (List Oct) := match parseAll k b with
  | some os => if (os.map Oct.clean).all id then some os else none
  | none => none
theorem tkAll_nil (k : Nat) : tkAll k [] = some [] := rfl
theorem tkAll_cons (k : Nat) (c : UInt8) (r : List UInt8) : tkAll k (c :: r) = match tk k (c :: r) with
    | none => none
    | some (o, rest) => (tkAll k rest).map (o :: ·) := by
  unfold tkAll tk
  rw [parseAll_cons]
  cases hp : parse k (c :: r) with
  | none => rfl
  | some x =>
    obtain ⟨o, rest⟩ := x
    dsimp only
    cases hc : o.clean with
    | false =>
      simp only [Bool.false_eq_true, if_false]
      cases parseAll k rest with
      | none => rfl
      | some os =>
        have e : (List.map Oct.clean (o :: os)).all id = false := by simp [hc]
        simp only [Option.map_some, e, Bool.false_eq_true, if_false]
    | true =>
      simp only [if_true]
      cases parseAll k rest with
      | none => rfl
      | some os =>
        have e : (List.map Oct.clean (o :: os)).all id = (List.map Oct.clean os).all id := by simp [hc]
        simp only [Option.map_some, e]
        cases (List.map Oct.clean os).all id <;> rfl
theorem tk_cons (k : Nat) (tg : UInt8) (r : List UInt8) : tk (k + 1) (tg :: r) = if tg = 0 then none else match lenOf r with
    | none => none
    | some (n, r2) => if n ≤ r2.length then
        (if tg.toNat < 128 then some (.mk tg (r2.take n) [], r2.drop n) else (tkAll k (r2.take n)).map fun os => (.mk tg [] os, r2.drop n))
        else none := by
  unfold tk
  rw [parse_cons]
  cases lenOf r with
  | none => simp
  | some x =>
    obtain ⟨n, r2⟩ := x
    dsimp only
    by_cases hn : n ≤ r2.length
    · rw [if_pos hn, if_pos hn]
      by_cases ht : tg.toNat < 128
      · rw [if_pos ht, if_pos ht]
        dsimp only
        by_cases h0 : tg = 0
        · rw [if_pos h0, clean_mk, h0]; rfl
        · rw [if_neg h0, clean_mk]
          have : (tg != 0) = true := by simpa using h0
          rw [this]; rfl
      · rw [if_neg ht, if_neg ht]
        have h0 : ¬ tg = 0 := by intro e; subst e; exact ht (by decide)
        rw [if_neg h0]
        have h1 : (tg != 0) = true := by simpa using h0
        unfold tkAll
        cases parseAll k (r2.take n) with
        | none => rfl
        | some os =>
          simp only [Option.map_some, clean_mk, h1, Bool.true_and]
          cases (List.map Oct.clean os).all id <;> rfl
    · rw [if_neg hn, if_neg hn]
      simp

theorem tk_le {k : Nat} {b : List UInt8} {o : Oct} {r : List UInt8} (h : tk k b = some (o, r)) : r.length + 2 ≤ b.length := by
  unfold tk at h
  split at h
  · rename_i o' r' hp
    split at h
    · injection h with h
      injection h with h1 h2
      subst h1; subst h2
      exact parse_le hp
    · cases h
  · cases h

def takeV (k : Nat) (b : List UInt8) : AV := match tk k b with
  | some (o, r) => .tup [.agg o.cells, .int .i64 ((b.length - r.length : Nat) : Int), .bool true]
  | none => .tup [.agg zeroOct.cells, .int .i64 0, .bool false]
theorem takeV_bd (n k : Nat) (b : List UInt8) : Bd n (takeV k b) := by
  unfold takeV
  split
  all_goals
    refine .tup fun e he => ?_
    simp only [List.mem_cons, List.not_mem_nil, or_false] at he
    rcases he with rfl | rfl | rfl
    · exact Oct.bdA _ _
    · exact .int
    · exact .bool

theorem zeroOct_sub : Sub (.agg [.int .u8 0, .sl .full 0 [], .sl .full 0 []]) (.agg zeroOct.cells) := Sub.agg (vs := zeroOct.cells) ⟨Sub.refl _, Sub.empty, Sub.empty, trivial⟩

theorem headP_cons (tg : UInt8) (r : List UInt8) : headP (tg :: r) = if tg = 0 then none else match lenOf r with
    | none => none
    | some (n, r2) => some (tg, 1 + (r.length - r2.length), n) := rfl

theorem take_A : ∀ (k : Nat) (b : List UInt8) (H : List AObj), k ≤ 12 → b.length ≤ 1000000000000 →
    CallsA E 60 [.sl .no 1 (b.map byteRow), .int .i64 ((13 - k : Nat) : Int)] H (Is H (takeV k b)) := by
  intro k
  induction k with
  | zero =>
    intro b H hk hb
    have hn : tk 0 b = none := by unfold tk; rfl
    have e : takeV 0 b = .tup [.agg zeroOct.cells, .int .i64 0, .bool false] := by unfold takeV; rw [hn]
    have fail : ∀ {L : List AObj} {t : Slots} {rs : List ResultVar} {as' : List AV}, resL L Try.E.T t rs = some as' → resN H.length t rs = rs.map (fun _ => H.length) → as' = [.agg [.int .u8 0, .sl .full 0 [], .sl .full 0 []], .int .i64 0, .bool false] → retK Try.E rs H (Is H (takeV 0 b)) .ret t (H ++ L) := by
      intro L t rs as' h1 h2 h3
      subst h3
      refine retK.sub (.inr rfl) rfl (TrOk.refl H) h1 h2 (r := takeV 0 b) ?_ (takeV_bd _ _ _) ⟨rfl, rfl⟩
      rw [e]
      exact Sub.tup (vs := [.agg zeroOct.cells, .int .i64 0, .bool false]) ⟨zeroOct_sub, Sub.refl _, Sub.refl _, trivial⟩
    have hHd := fun H => rHead_A b .no H hb
    refine .enter Try.func60 rfl rfl rfl 82 Try.ntmps60 (Nat.le_of_ble_eq_true rfl) ?_
    cases hh : headP b with
    | none =>
      rw [hh] at hHd
      unfold headV at hHd
      dsimp only at hHd
      repeat' first
        | refine WpA.seq ?_
        | refine WpA.region ?_
        | refine WpOps.op _ rfl rfl rfl rfl rfl ?_
        | refine WpOps.box _ rfl rfl rfl rfl rfl ?_
        | refine WpOps.alloc _ rfl rfl rfl rfl rfl rfl ?_
        | refine WpOps.store rfl rfl rfl rfl rfl rfl rfl rfl rfl rfl ?_
        | refine WpOps.skip rfl rfl rfl ?_
        | refine WpOps.build _ rfl rfl rfl rfl rfl ?_
        | refine WpOps.sh _ rfl rfl rfl rfl rfl ?_
        | (refine WpOps.call rfl rfl rfl rfl rfl (by exact hHd _) ?_; rintro _ _ ⟨rfl, rfl⟩)
        | refine WpOps.gsplit _ rfl rfl rfl (fun h => ?_) (fun h => ?_)
        | refine WpA.block ?_
        | refine WpA.exit ?_
        | refine WpOps.nil ?_
        | refine WpA.ret ?_
        | refine WpA.skip ?_
        | refine WpA.condT rfl ?_
        | refine WpA.condF rfl ?_
        | refine WpA.cond _ rfl (fun h => ?_) (fun h => ?_)
        | refine WpA.draw (by kernel_rfl) ?_
        | refine LexA.op _ rfl rfl rfl rfl rfl ?_
        | refine LexA.skip rfl rfl rfl ?_
        | refine LexA.build _ rfl rfl rfl rfl rfl ?_
        | refine LexA.sh _ rfl rfl rfl rfl rfl ?_
        | refine LexA.call rfl rfl rfl rfl rfl (by exact hHd _) ?_
        | refine LexA.gsplit _ rfl rfl rfl (fun h => ?_) (fun h => ?_)
        | refine LexA.nil ?_
      exact fail rfl rfl rfl
    | some x =>
      obtain ⟨tg', s, n⟩ := x
      rw [hh] at hHd
      unfold headV at hHd
      dsimp only at hHd
      repeat' first
        | refine WpA.seq ?_
        | refine WpA.region ?_
        | refine WpOps.op _ rfl rfl rfl rfl rfl ?_
        | refine WpOps.box _ rfl rfl rfl rfl rfl ?_
        | refine WpOps.alloc _ rfl rfl rfl rfl rfl rfl ?_
        | refine WpOps.store rfl rfl rfl rfl rfl rfl rfl rfl rfl rfl ?_
        | refine WpOps.skip rfl rfl rfl ?_
        | refine WpOps.build _ rfl rfl rfl rfl rfl ?_
        | refine WpOps.sh _ rfl rfl rfl rfl rfl ?_
        | (refine WpOps.call rfl rfl rfl rfl rfl (by exact hHd _) ?_; rintro _ _ ⟨rfl, rfl⟩)
        | refine WpOps.gsplit _ rfl rfl rfl (fun h => ?_) (fun h => ?_)
        | refine WpA.block ?_
        | refine WpA.exit ?_
        | refine WpOps.nil ?_
        | refine WpA.ret ?_
        | refine WpA.skip ?_
        | refine WpA.condT rfl ?_
        | refine WpA.condF rfl ?_
        | refine WpA.cond _ rfl (fun h => ?_) (fun h => ?_)
        | refine WpA.draw (by kernel_rfl) ?_
        | refine LexA.op _ rfl rfl rfl rfl rfl ?_
        | refine LexA.skip rfl rfl rfl ?_
        | refine LexA.build _ rfl rfl rfl rfl rfl ?_
        | refine LexA.sh _ rfl rfl rfl rfl rfl ?_
        | refine LexA.call rfl rfl rfl rfl rfl (by exact hHd _) ?_
        | refine LexA.gsplit _ rfl rfl rfl (fun h => ?_) (fun h => ?_)
        | refine LexA.nil ?_
      all_goals exact fail rfl rfl rfl
  | succ k ih =>
  intro b H hk hb
  have fail : tk (k + 1) b = none → ∀ {L : List AObj} {t : Slots} {rs : List ResultVar} {as' : List AV}, resL L Try.E.T t rs = some as' → resN H.length t rs = rs.map (fun _ => H.length) → as' = [.agg [.int .u8 0, .sl .full 0 [], .sl .full 0 []], .int .i64 0, .bool false] → retK Try.E rs H (Is H (takeV (k + 1) b)) .ret t (H ++ L) := by
    intro hn L t rs as' h1 h2 h3
    subst h3
    have e : takeV (k + 1) b = .tup [.agg zeroOct.cells, .int .i64 0, .bool false] := by unfold takeV; rw [hn]
    refine retK.sub (.inr rfl) rfl (TrOk.refl H) h1 h2 (r := takeV (k + 1) b) ?_ (takeV_bd _ _ _) ⟨rfl, rfl⟩
    rw [e]
    exact Sub.tup (vs := [.agg zeroOct.cells, .int .i64 0, .bool false]) ⟨zeroOct_sub, Sub.refl _, Sub.refl _, trivial⟩
  have hd : decide ((((13 - (k + 1) : Nat)) : Int) > 12) = false := by simp; omega
  have hHd := fun H => rHead_A b .no H hb
  refine .enter Try.func60 rfl rfl rfl 82 Try.ntmps60 (Nat.le_of_ble_eq_true rfl) ?_
  cases hh : headP b with
  | none =>
    have hn : tk (k + 1) b = none := by
      cases b with
      | nil => rfl
      | cons tg r =>
        rw [tk_cons]
        rw [headP_cons] at hh
        by_cases h0 : tg = 0
        · rw [if_pos h0]
        · rw [if_neg h0] at hh ⊢
          cases hl : lenOf r with
          | none => rfl
          | some x => rw [hl] at hh; cases hh
    rw [hh] at hHd
    unfold headV at hHd
    dsimp only at hHd
    repeat' first
      | refine WpA.seq ?_
      | refine WpA.region ?_
      | refine WpOps.op _ rfl rfl rfl rfl rfl ?_
      | refine WpOps.box _ rfl rfl rfl rfl rfl ?_
      | refine WpOps.alloc _ rfl rfl rfl rfl rfl rfl ?_
      | refine WpOps.store rfl rfl rfl rfl rfl rfl rfl rfl rfl rfl ?_
      | refine WpOps.skip rfl rfl rfl ?_
      | refine WpOps.build _ rfl rfl rfl rfl rfl ?_
      | refine WpOps.sh _ rfl rfl rfl rfl rfl ?_
      | (refine WpOps.call rfl rfl rfl rfl rfl (by exact hHd _) ?_; rintro _ _ ⟨rfl, rfl⟩)
      | refine WpOps.gsplit _ rfl rfl rfl (fun h => ?_) (fun h => ?_)
      | refine WpA.block ?_
      | refine WpA.exit ?_
      | refine WpOps.nil ?_
      | refine WpA.ret ?_
      | refine WpA.skip ?_
      | refine WpA.condT rfl ?_
      | refine WpA.condF rfl ?_
      | refine WpA.cond _ rfl (fun h => ?_) (fun h => ?_)
      | refine WpA.draw (by kernel_rfl) ?_
      | refine LexA.op _ rfl rfl rfl rfl rfl ?_
      | refine LexA.skip rfl rfl rfl ?_
      | refine LexA.build _ rfl rfl rfl rfl rfl ?_
      | refine LexA.sh _ rfl rfl rfl rfl rfl ?_
      | refine LexA.call rfl rfl rfl rfl rfl (by exact hHd _) ?_
      | refine LexA.gsplit _ rfl rfl rfl (fun h => ?_) (fun h => ?_)
      | refine LexA.nil ?_
    exact fail hn rfl rfl rfl
  | some x =>
    obtain ⟨tg', s, n⟩ := x
    obtain ⟨tg, r, r2, rfl, h0, hl, htg, hs⟩ : ∃ tg r r2, b = tg :: r ∧ ¬ tg = 0 ∧ lenOf r = some (n, r2) ∧ tg' = tg ∧ s = 1 + (r.length - r2.length) := by
      cases b with
      | nil => cases hh
      | cons tg r =>
        rw [headP_cons] at hh
        by_cases h0 : tg = 0
        · rw [if_pos h0] at hh; cases hh
        · rw [if_neg h0] at hh
          cases hl : lenOf r with
          | none => rw [hl] at hh; cases hh
          | some x =>
            obtain ⟨n', r2⟩ := x
            rw [hl] at hh
            injection hh with hh
            injection hh with h1 hh
            injection hh with h2 h3
            subst h1; subst h2; subst h3
            exact ⟨tg, r, r2, rfl, h0, hl, rfl, rfl⟩
    subst htg
    have hr2 := lenOf_le hl
    have hsuf := lenOf_sound hl
    have hdr : (tg' :: r).drop s = r2 := by
      have h1 : r.length - r2.length = (lenB n).length := by rw [hsuf]; simp
      rw [hs, h1, Nat.add_comm, List.drop_succ_cons, hsuf, List.drop_left]
    have htk : tk (k + 1) (tg' :: r) = if n ≤ r2.length then
        (if tg'.toNat < 128 then some (.mk tg' (r2.take n) [], r2.drop n) else (tkAll k (r2.take n)).map fun os => (.mk tg' [] os, r2.drop n))
        else none := by rw [tk_cons, if_neg h0, hl]
    have hlen : ((tg' :: r).map byteRow).length = r.length + 1 := by simp
    simp only [List.length_cons] at hb
    rw [hh] at hHd
    unfold headV at hHd
    dsimp only at hHd
    have hsub : IntKind.i64.wrap ((((tg' :: r).map byteRow).length : Int) - (s : Nat)) = (r2.length : Int) := by
      rw [hlen, hs, wrap64 (by omega) (by omega)]
      omega
    by_cases hn : n ≤ r2.length
    · rw [if_pos hn] at htk
      have d2 : decide (((n : Nat) : Int) > IntKind.i64.wrap ((((tg' :: r).map byteRow).length : Int) - (s : Nat))) = false := by rw [hsub]; simp; omega
      obtain ⟨ct, hct⟩ : ∃ ct, ct = r2.take n := ⟨_, rfl⟩
      have hctl : ct.length = n := by rw [hct, List.length_take]; omega
      rw [← hct] at htk
      have hend : IntKind.i64.wrap ((s : Nat) + (n : Nat) : Int) = ((s + n : Nat) : Int) := by rw [wrap64 (by omega) (by omega)]; omega
      have hsl : ∀ j, j ≤ n → ((((tg' :: r).map byteRow).take (s + n)).drop (s + j)) = (ct.drop j).map byteRow := fun j hj => by
        rw [← List.map_take, ← List.map_drop, hct, ← hdr, List.take_drop, List.drop_drop]
      have hq : s + n ≤ ((tg' :: r).map byteRow).length := by rw [hlen]; omega
      repeat' first
        | refine WpA.seq ?_
        | refine WpA.region ?_
        | refine WpOps.op _ rfl rfl rfl rfl rfl ?_
        | refine WpOps.box _ rfl rfl rfl rfl rfl ?_
        | refine WpOps.alloc _ rfl rfl rfl rfl rfl rfl ?_
        | refine WpOps.store rfl rfl rfl rfl rfl rfl rfl rfl rfl rfl ?_
        | refine WpOps.skip rfl rfl rfl ?_
        | refine WpOps.build _ rfl rfl rfl rfl rfl ?_
        | refine WpOps.sh _ rfl rfl rfl rfl rfl ?_
        | (refine WpOps.call rfl rfl rfl rfl rfl (by exact hHd _) ?_; rintro _ _ ⟨rfl, rfl⟩)
        | refine WpOps.gsplit _ rfl rfl rfl (fun h => ?_) (fun h => ?_)
        | refine WpA.block ?_
        | refine WpA.exit ?_
        | refine WpOps.nil ?_
        | refine WpA.ret ?_
        | refine WpA.skip ?_
        | refine WpA.condT rfl ?_
        | refine WpA.condF rfl ?_
        | refine WpA.draw (by kernel_rfl) ?_
        | refine LexA.op _ rfl rfl rfl rfl rfl ?_
        | refine LexA.skip rfl rfl rfl ?_
        | refine LexA.build _ rfl rfl rfl rfl rfl ?_
        | refine LexA.sh _ rfl rfl rfl rfl rfl ?_
        | refine LexA.call rfl rfl rfl rfl rfl (by exact hHd _) ?_
        | refine LexA.gsplit _ rfl rfl rfl (fun h => ?_) (fun h => ?_)
        | refine LexA.nil ?_
      · exfalso
        have h' := h.symm.trans d2
        cases h'
      refine WpA.cond false (congrArg AV.bool hd) (fun h => by cases h) (fun h => ?_)
      clear h
      repeat' first
        | refine WpA.seq ?_
        | refine WpA.region ?_
        | refine WpOps.op _ rfl rfl rfl rfl rfl ?_
        | refine WpOps.box _ rfl rfl rfl rfl rfl ?_
        | refine WpOps.alloc _ rfl rfl rfl rfl rfl rfl ?_
        | refine WpOps.store rfl rfl rfl rfl rfl rfl rfl rfl rfl rfl ?_
        | refine WpOps.skip rfl rfl rfl ?_
        | refine WpOps.build _ rfl rfl rfl rfl rfl ?_
        | refine WpOps.sh _ rfl rfl rfl rfl rfl ?_
        | refine WpOps.gsplit _ rfl rfl rfl (fun h => ?_) (fun h => ?_)
        | refine WpA.block ?_
        | refine WpA.exit ?_
        | refine WpOps.nil ?_
        | refine WpA.ret ?_
        | refine WpA.skip ?_
        | refine WpA.condT rfl ?_
        | refine WpA.condF rfl ?_
        | refine WpA.draw (by kernel_rfl) ?_
        | refine LexA.op _ rfl rfl rfl rfl rfl ?_
        | refine LexA.skip rfl rfl rfl ?_
        | refine LexA.build _ rfl rfl rfl rfl rfl ?_
        | refine LexA.sh _ rfl rfl rfl rfl rfl ?_
        | refine LexA.gsplit _ rfl rfl rfl (fun h => ?_) (fun h => ?_)
        | refine LexA.nil ?_
      refine WpA.cond _ rfl (fun h => ?_) (fun h => ?_)
      · have ht : tg'.toNat < 128 := by
          have h' : decide (((tg'.toNat : Nat) : Int) < 128) = true := h
          have := of_decide_eq_true h'
          omega
        rw [if_pos ht] at htk
        have hfit : (0 + (ct.map byteRow).length) * 1 ≤ 140737488355328 := by rw [List.length_map, hctl]; omega
        have hs0 := hsl 0 (Nat.zero_le _)
        rw [Nat.add_zero, List.drop_zero] at hs0
        repeat' first
          | refine WpA.seq ?_
          | refine WpA.region ?_
          | refine WpOps.op _ rfl rfl rfl rfl rfl ?_
          | refine WpOps.box _ rfl rfl rfl rfl rfl ?_
          | refine WpOps.alloc _ rfl rfl rfl rfl rfl rfl ?_
          | refine WpOps.store rfl rfl rfl rfl rfl rfl rfl rfl rfl rfl ?_
          | refine WpOps.skip rfl rfl rfl ?_
          | refine WpOps.build _ rfl rfl rfl rfl rfl ?_
          | refine WpOps.sh _ rfl rfl rfl rfl rfl ?_
          | (refine WpOps.buildSlice [] rfl rfl rfl rfl rfl rfl rfl rfl rfl rfl rfl ?_)
          | (refine WpOps.sliceE s (s + n) (ct.map byteRow) rfl rfl rfl rfl rfl rfl rfl ⟨_, _, rfl, Int.natCast_nonneg s, Int.toNat_natCast s⟩ ⟨_, _, rfl, (by rw [hend]; exact Int.natCast_nonneg _), (by rw [hend]; exact Int.toNat_natCast _)⟩ (by omega) hq hs0 ?_)
          | (refine WpOps.appF rfl rfl rfl rfl rfl rfl rfl (fun k h => by cases h) rfl rfl rfl (by exact hfit) ?_)
          | refine WpOps.gsplit _ rfl rfl rfl (fun h => ?_) (fun h => ?_)
          | refine WpA.block ?_
          | refine WpA.exit ?_
          | refine WpOps.nil ?_
          | refine WpA.ret ?_
          | refine WpA.skip ?_
          | refine WpA.condT rfl ?_
          | refine WpA.condF rfl ?_
          | refine WpA.cond _ rfl (fun h => ?_) (fun h => ?_)
          | refine WpA.draw (by kernel_rfl) ?_
          | refine LexA.op _ rfl rfl rfl rfl rfl ?_
          | refine LexA.skip rfl rfl rfl ?_
          | refine LexA.build _ rfl rfl rfl rfl rfl ?_
          | refine LexA.sh _ rfl rfl rfl rfl rfl ?_
          | refine LexA.gsplit _ rfl rfl rfl (fun h => ?_) (fun h => ?_)
          | refine LexA.nil ?_
        have e : takeV (k + 1) (tg' :: r) = .tup [.agg (Oct.mk tg' ct []).cells, .int .i64 (((tg' :: r).length - (r2.drop n).length : Nat) : Int), .bool true] := by unfold takeV; rw [htk]
        refine retK.sub (.inr rfl) rfl (TrOk.refl H) (L := _) rfl rfl (r := takeV (k + 1) (tg' :: r)) ?_ (takeV_bd _ _ _) ⟨rfl, rfl⟩
        rw [e]
        refine Sub.tup (vs := [.agg (Oct.mk tg' ct []).cells, .int .i64 (((tg' :: r).length - (r2.drop n).length : Nat) : Int), .bool true]) ⟨Sub.agg (vs := octA tg' ct []) ⟨Sub.refl _, Sub.refl _, Sub.empty, trivial⟩, ?_, Sub.refl _, trivial⟩
        show Sub (.int .i64 (IntKind.i64.wrap ((s : Nat) + (n : Nat) : Int))) _
        rw [hend]
        have e2 : s + n = (tg' :: r).length - (r2.drop n).length := by
          rw [List.length_drop, List.length_cons, hs]; omega
        rw [e2]
        exact Sub.refl _
      · have ht : ¬ tg'.toNat < 128 := by
          have h' : decide (((tg'.toNat : Nat) : Int) < 128) = false := h
          have := of_decide_eq_false h'
          omega
        rw [if_neg ht] at htk
        clear h
        have harg : IntKind.i64.wrap (((13 - (k + 1) : Nat) : Int) + 1) = ((13 - k : Nat) : Int) := by rw [wrap64 (by omega) (by omega)]; omega
        repeat' first
          | refine WpA.seq ?_
          | refine WpA.region ?_
          | refine WpOps.op _ rfl rfl rfl rfl rfl ?_
          | refine WpOps.box _ rfl rfl rfl rfl rfl ?_
          | refine WpOps.alloc _ rfl rfl rfl rfl rfl rfl ?_
          | refine WpOps.store rfl rfl rfl rfl rfl rfl rfl rfl rfl rfl ?_
          | refine WpOps.skip rfl rfl rfl ?_
          | refine WpOps.build _ rfl rfl rfl rfl rfl ?_
          | refine WpOps.sh _ rfl rfl rfl rfl rfl ?_
          | refine WpOps.gsplit _ rfl rfl rfl (fun h => ?_) (fun h => ?_)
          | refine WpA.block ?_
          | refine WpA.exit ?_
          | refine WpOps.nil ?_
          | refine WpA.ret ?_
          | refine WpA.skip ?_
          | refine WpA.condT rfl ?_
          | refine WpA.condF rfl ?_
          | refine WpA.draw (by kernel_rfl) ?_
          | refine LexA.op _ rfl rfl rfl rfl rfl ?_
          | refine LexA.skip rfl rfl rfl ?_
          | refine LexA.build _ rfl rfl rfl rfl rfl ?_
          | refine LexA.sh _ rfl rfl rfl rfl rfl ?_
          | refine LexA.gsplit _ rfl rfl rfl (fun h => ?_) (fun h => ?_)
          | refine LexA.nil ?_
        refine WpA.adoptC (j := 1) (q := 2) 3 rfl rfl ?_
        refine WpA.loopA (α := List Oct × Nat) (fun p => [(0, .sl .no 1 ((tg' :: r).map byteRow)), (1, .int .i64 ((13 - (k + 1) : Nat) : Int)), (4, .ptr H.length 0 0), (8, .int .i64 ((s + p.2 : Nat) : Int)), (11, .ptr H.length 1 0), (12, .int .i64 (IntKind.i64.wrap ((s : Nat) + (n : Nat) : Int)))])
          (fun p => H ++ [.cells [.int .u8 0, .sl .full 0 [], .sl .full 0 []], .cells [u8 tg', .sl .full 0 [], .sl (.row H.length 2) 3 (Oct.cellsL p.1)], .tail (Oct.cellsL p.1).length 3])
          (fun p => p.2 ≤ n ∧ p.1.length ≤ p.2 ∧ tkAll k ct = (tkAll k (ct.drop p.2)).map (p.1 ++ ·)) (fun p => n - p.2) ([], 0) ⟨Nat.zero_le _, Nat.le_refl _, by simp⟩ ⟨rfl, rfl, rfl, rfl, rfl, rfl, trivial⟩ rfl (fun _ _ => by simp) (fun p p' _ _ => ?_) (fun p p' _ => ?_) (fun _ => ⟨rfl, rfl, rfl, rfl, rfl, rfl, trivial⟩) ?_
        · refine TrOk.app fun j x hj => ?_
          rcases j with _ | _ | _ | j
          · exact .inl hj
          · injection hj with hj; subst hj
            refine .inr (obd_cells ?_)
            intro x hx
            simp only [List.mem_cons, List.not_mem_nil, or_false] at hx
            rcases hx with rfl | rfl | rfl
            · exact .int
            · exact .sl (fun _ _ e => by cases e) (by simp)
            · exact .sl (fun _ _ e => by cases e; simp) (Oct.bdL _ _)
          · injection hj with hj; subst hj; exact .inr (obd_tail)
          · cases hj
        · exact ⟨bd_slB (tg' :: r), .int, .ptr (by simp), .int, .ptr (by simp), .int, trivial⟩
        · rintro ⟨os, j⟩ ⟨hj, hol, hinv⟩
          dsimp only at hj hol hinv ⊢
          by_cases hjn : j < n
          · have hlt : decide (((s + j : Nat) : Int) < IntKind.i64.wrap ((s : Nat) + (n : Nat) : Int)) = true := by rw [hend]; simp; omega
            have hsj := hsl j hj
            have hT := fun H => ih (ct.drop j) H (by omega) (by rw [List.length_drop]; omega)
            rw [← harg] at hT
            cases hq2 : tk k (ct.drop j) with
            | none =>
              have htn : tk (k + 1) (tg' :: r) = none := by
                have hne : ct.drop j ≠ [] := by intro e; have := congrArg List.length e; rw [List.length_drop] at this; simp at this; omega
                obtain ⟨c, l, hcl⟩ := List.exists_cons_of_ne_nil hne
                rw [htk, hinv, hcl, tkAll_cons, ← hcl, hq2]; rfl
              have e : takeV k (ct.drop j) = .tup [.agg zeroOct.cells, .int .i64 0, .bool false] := by unfold takeV; rw [hq2]
              rw [e] at hT
              repeat' first
                | refine WpA.seq ?_
                | refine WpA.region ?_
                | refine WpOps.op _ rfl rfl rfl rfl rfl ?_
                | refine WpOps.box _ rfl rfl rfl rfl rfl ?_
                | refine WpOps.alloc _ rfl rfl rfl rfl rfl rfl ?_
                | refine WpOps.store rfl rfl rfl rfl rfl rfl rfl rfl rfl rfl ?_
                | refine WpOps.skip rfl rfl rfl ?_
                | refine WpOps.build _ rfl rfl rfl rfl rfl ?_
                | refine WpOps.sh _ rfl rfl rfl rfl rfl ?_
                | refine WpOps.gsplit _ rfl rfl rfl (fun h => ?_) (fun h => ?_)
                | refine WpA.block ?_
                | refine WpA.exit ?_
                | refine WpOps.nil ?_
                | refine WpA.ret ?_
                | refine WpA.skip ?_
                | refine WpA.condT rfl ?_
                | refine WpA.condF rfl ?_
                | refine WpA.draw (by kernel_rfl) ?_
                | refine LexA.op _ rfl rfl rfl rfl rfl ?_
                | refine LexA.skip rfl rfl rfl ?_
                | refine LexA.build _ rfl rfl rfl rfl rfl ?_
                | refine LexA.sh _ rfl rfl rfl rfl rfl ?_
                | refine LexA.gsplit _ rfl rfl rfl (fun h => ?_) (fun h => ?_)
                | refine LexA.nil ?_
              refine WpA.cond true (congrArg AV.bool hlt) (fun h => ?_) (fun h => by cases h)
              repeat' first
                | refine WpA.seq ?_
                | refine WpA.region ?_
                | refine WpOps.op _ rfl rfl rfl rfl rfl ?_
                | refine WpOps.box _ rfl rfl rfl rfl rfl ?_
                | refine WpOps.alloc _ rfl rfl rfl rfl rfl rfl ?_
                | refine WpOps.store rfl rfl rfl rfl rfl rfl rfl rfl rfl rfl ?_
                | refine WpOps.skip rfl rfl rfl ?_
                | refine WpOps.build _ rfl rfl rfl rfl rfl ?_
                | refine WpOps.sh _ rfl rfl rfl rfl rfl ?_
                | (refine WpOps.call rfl rfl rfl rfl rfl (by exact hT _) ?_; rintro _ _ ⟨rfl, rfl⟩)
                | (refine WpOps.sliceE (s + j) (s + n) ((ct.drop j).map byteRow) rfl rfl rfl rfl rfl rfl rfl ⟨_, _, rfl, Int.natCast_nonneg _, Int.toNat_natCast _⟩ ⟨_, _, rfl, (by rw [hend]; exact Int.natCast_nonneg _), (by rw [hend]; exact Int.toNat_natCast _)⟩ (by omega) hq hsj ?_)
                | refine WpOps.gsplit _ rfl rfl rfl (fun h => ?_) (fun h => ?_)
                | refine WpA.block ?_
                | refine WpA.exit ?_
                | refine WpOps.nil ?_
                | refine WpA.ret ?_
                | refine WpA.skip ?_
                | refine WpA.condT rfl ?_
                | refine WpA.condF rfl ?_
                | refine WpA.cond _ rfl (fun h => ?_) (fun h => ?_)
                | refine WpA.draw (by kernel_rfl) ?_
                | refine LexA.op _ rfl rfl rfl rfl rfl ?_
                | refine LexA.skip rfl rfl rfl ?_
                | refine LexA.build _ rfl rfl rfl rfl rfl ?_
                | refine LexA.sh _ rfl rfl rfl rfl rfl ?_
                | refine LexA.call rfl rfl rfl rfl rfl (by exact hT _) ?_
                | refine LexA.gsplit _ rfl rfl rfl (fun h => ?_) (fun h => ?_)
                | refine LexA.nil ?_
              exact fail htn rfl rfl rfl
            | some x =>
              obtain ⟨o, rest⟩ := x
              have hle := tk_le hq2
              obtain ⟨sz, hszd⟩ : ∃ sz, sz = (ct.drop j).length - rest.length := ⟨_, rfl⟩
              have hdl : (ct.drop j).length = n - j := by rw [List.length_drop, hctl]
              have hrest : ct.drop (j + sz) = rest := by
                have hps : parse k (ct.drop j) = some (o, rest) := by
                  unfold tk at hq2
                  split at hq2
                  · rename_i o' r' hp
                    split at hq2
                    · injection hq2 with hq2
                      injection hq2 with h1 h2
                      subst h1; subst h2
                      exact hp
                    · cases hq2
                  · cases hq2
                have hps := parse_sound k _ o rest hps
                rw [← List.drop_drop, hps, hszd, hps]
                rw [List.length_append, Nat.add_sub_cancel, List.drop_left]
              have e : takeV k (ct.drop j) = .tup [.agg o.cells, .int .i64 (sz : Nat), .bool true] := by unfold takeV; rw [hq2, hszd]
              rw [e] at hT
              have hfit : ((Oct.cellsL os).length + 1) * 56 ≤ 140737488355328 := by rw [cellsL_length]; omega
              repeat' first
                | refine WpA.seq ?_
                | refine WpA.region ?_
                | refine WpOps.op _ rfl rfl rfl rfl rfl ?_
                | refine WpOps.box _ rfl rfl rfl rfl rfl ?_
                | refine WpOps.alloc _ rfl rfl rfl rfl rfl rfl ?_
                | refine WpOps.store rfl rfl rfl rfl rfl rfl rfl rfl rfl rfl ?_
                | refine WpOps.skip rfl rfl rfl ?_
                | refine WpOps.build _ rfl rfl rfl rfl rfl ?_
                | refine WpOps.sh _ rfl rfl rfl rfl rfl ?_
                | refine WpOps.gsplit _ rfl rfl rfl (fun h => ?_) (fun h => ?_)
                | refine WpA.block ?_
                | refine WpA.exit ?_
                | refine WpOps.nil ?_
                | refine WpA.ret ?_
                | refine WpA.skip ?_
                | refine WpA.condT rfl ?_
                | refine WpA.condF rfl ?_
                | refine WpA.draw (by kernel_rfl) ?_
                | refine LexA.op _ rfl rfl rfl rfl rfl ?_
                | refine LexA.skip rfl rfl rfl ?_
                | refine LexA.build _ rfl rfl rfl rfl rfl ?_
                | refine LexA.sh _ rfl rfl rfl rfl rfl ?_
                | refine LexA.gsplit _ rfl rfl rfl (fun h => ?_) (fun h => ?_)
                | refine LexA.nil ?_
              refine WpA.cond true (congrArg AV.bool hlt) (fun h => ?_) (fun h => by cases h)
              repeat' first
                | refine WpA.seq ?_
                | refine WpA.region ?_
                | refine WpOps.op _ rfl rfl rfl rfl rfl ?_
                | refine WpOps.box _ rfl rfl rfl rfl rfl ?_
                | refine WpOps.alloc _ rfl rfl rfl rfl rfl rfl ?_
                | refine WpOps.store rfl rfl rfl rfl rfl rfl rfl rfl rfl rfl ?_
                | refine WpOps.skip rfl rfl rfl ?_
                | refine WpOps.build _ rfl rfl rfl rfl rfl ?_
                | refine WpOps.sh _ rfl rfl rfl rfl rfl ?_
                | (refine WpOps.call rfl rfl rfl rfl rfl (by exact hT _) ?_; rintro _ _ ⟨rfl, rfl⟩)
                | (refine WpOps.sliceE (s + j) (s + n) ((ct.drop j).map byteRow) rfl rfl rfl rfl rfl rfl rfl ⟨_, _, rfl, Int.natCast_nonneg _, Int.toNat_natCast _⟩ ⟨_, _, rfl, (by rw [hend]; exact Int.natCast_nonneg _), (by rw [hend]; exact Int.toNat_natCast _)⟩ (by omega) hq hsj ?_)
                | (refine WpOps.buildSlice _ rfl rfl rfl rfl rfl rfl rfl rfl rfl rfl rfl ?_)
                | (refine WpOps.appR rfl rfl rfl rfl rfl rfl rfl (fun k h => by cases h) rfl rfl rfl rfl rfl rfl (by exact cells_one o) (by exact hfit) ?_)
                | refine WpOps.gsplit _ rfl rfl rfl (fun h => ?_) (fun h => ?_)
                | refine WpA.block ?_
                | refine WpA.exit ?_
                | refine WpOps.nil ?_
                | refine WpA.ret ?_
                | refine WpA.skip ?_
                | refine WpA.condT rfl ?_
                | refine WpA.condF rfl ?_
                | refine WpA.cond _ rfl (fun h => ?_) (fun h => ?_)
                | refine WpA.draw (by kernel_rfl) ?_
                | refine LexA.op _ rfl rfl rfl rfl rfl ?_
                | refine LexA.skip rfl rfl rfl ?_
                | refine LexA.build _ rfl rfl rfl rfl rfl ?_
                | refine LexA.sh _ rfl rfl rfl rfl rfl ?_
                | refine LexA.call rfl rfl rfl rfl rfl (by exact hT _) ?_
                | refine LexA.gsplit _ rfl rfl rfl (fun h => ?_) (fun h => ?_)
                | refine LexA.nil ?_
              have hw : IntKind.i64.wrap (((s + j : Nat) : Int) + ((sz : Nat) : Int)) = ((s + (j + sz) : Nat) : Int) := by rw [wrap64 (by omega) (by omega)]; omega
              refine ⟨(os ++ [o], j + sz), ⟨by show j + sz ≤ n; omega, by simp; omega, ?_⟩, by show n - (j + sz) < n - j; omega, ⟨rfl, rfl, rfl, congrArg (AV.int .i64) hw, rfl, rfl, trivial⟩, [.cells o.cells], ?_⟩
              · have hne : ct.drop j ≠ [] := by intro e; have := congrArg List.length e; rw [hdl] at this; simp at this; omega
                obtain ⟨c, l, hcl⟩ := List.exists_cons_of_ne_nil hne
                show tkAll k ct = (tkAll k (ct.drop (j + sz))).map (os ++ [o] ++ ·)
                rw [hinv, hrest, hcl, tkAll_cons, ← hcl, hq2]
                simp only [Option.map_map]
                congr 1
                funext l
                simp
              · show _ = (H ++ [.cells [.int .u8 0, .sl .full 0 [], .sl .full 0 []], .cells [u8 tg', .sl .full 0 [], .sl (.row H.length 2) 3 (Oct.cellsL (os ++ [o]))], .tail (Oct.cellsL (os ++ [o])).length 3]) ++ _
                rw [cellsL_snoc]
                exact grow rfl
          · have hje : j = n := by omega
            subst hje
            have hlt : decide (((s + j : Nat) : Int) < IntKind.i64.wrap ((s : Nat) + (j : Nat) : Int)) = false := by rw [hend]; simp
            rw [List.drop_of_length_le (by omega), tkAll_nil] at hinv
            rw [hinv] at htk
            simp only [Option.map_some, List.append_nil] at htk
            repeat' first
              | refine WpA.seq ?_
              | refine WpA.region ?_
              | refine WpOps.op _ rfl rfl rfl rfl rfl ?_
              | refine WpOps.box _ rfl rfl rfl rfl rfl ?_
              | refine WpOps.alloc _ rfl rfl rfl rfl rfl rfl ?_
              | refine WpOps.store rfl rfl rfl rfl rfl rfl rfl rfl rfl rfl ?_
              | refine WpOps.skip rfl rfl rfl ?_
              | refine WpOps.build _ rfl rfl rfl rfl rfl ?_
              | refine WpOps.sh _ rfl rfl rfl rfl rfl ?_
              | refine WpOps.gsplit _ rfl rfl rfl (fun h => ?_) (fun h => ?_)
              | refine WpA.block ?_
              | refine WpA.exit ?_
              | refine WpOps.nil ?_
              | refine WpA.ret ?_
              | refine WpA.skip ?_
              | refine WpA.condT rfl ?_
              | refine WpA.condF rfl ?_
              | refine WpA.draw (by kernel_rfl) ?_
              | refine LexA.op _ rfl rfl rfl rfl rfl ?_
              | refine LexA.skip rfl rfl rfl ?_
              | refine LexA.build _ rfl rfl rfl rfl rfl ?_
              | refine LexA.sh _ rfl rfl rfl rfl rfl ?_
              | refine LexA.gsplit _ rfl rfl rfl (fun h => ?_) (fun h => ?_)
              | refine LexA.nil ?_
            refine WpA.cond false (congrArg AV.bool hlt) (fun h => by cases h) (fun h => ?_)
            repeat' first
              | refine WpA.seq ?_
              | refine WpA.region ?_
              | refine WpOps.op _ rfl rfl rfl rfl rfl ?_
              | refine WpOps.box _ rfl rfl rfl rfl rfl ?_
              | refine WpOps.alloc _ rfl rfl rfl rfl rfl rfl ?_
              | refine WpOps.store rfl rfl rfl rfl rfl rfl rfl rfl rfl rfl ?_
              | refine WpOps.skip rfl rfl rfl ?_
              | refine WpOps.build _ rfl rfl rfl rfl rfl ?_
              | refine WpOps.sh _ rfl rfl rfl rfl rfl ?_
              | refine WpOps.gsplit _ rfl rfl rfl (fun h => ?_) (fun h => ?_)
              | refine WpA.block ?_
              | refine WpA.exit ?_
              | refine WpOps.nil ?_
              | refine WpA.ret ?_
              | refine WpA.skip ?_
              | refine WpA.condT rfl ?_
              | refine WpA.condF rfl ?_
              | refine WpA.cond _ rfl (fun h => ?_) (fun h => ?_)
              | refine WpA.draw (by kernel_rfl) ?_
              | refine LexA.op _ rfl rfl rfl rfl rfl ?_
              | refine LexA.skip rfl rfl rfl ?_
              | refine LexA.build _ rfl rfl rfl rfl rfl ?_
              | refine LexA.sh _ rfl rfl rfl rfl rfl ?_
              | refine LexA.gsplit _ rfl rfl rfl (fun h => ?_) (fun h => ?_)
              | refine LexA.nil ?_
            have e : takeV (k + 1) (tg' :: r) = .tup [.agg (Oct.mk tg' [] os).cells, .int .i64 (((tg' :: r).length - (r2.drop j).length : Nat) : Int), .bool true] := by unfold takeV; rw [htk]
            refine retK.sub (.inr rfl) rfl (TrOk.refl H) (L := _) rfl rfl (r := takeV (k + 1) (tg' :: r)) ?_ (takeV_bd _ _ _) ⟨rfl, rfl⟩
            rw [e]
            refine Sub.tup (vs := [.agg (Oct.mk tg' [] os).cells, .int .i64 (((tg' :: r).length - (r2.drop j).length : Nat) : Int), .bool true]) ⟨Sub.agg (vs := octA tg' [] (Oct.cellsL os)) ⟨Sub.refl _, Sub.empty, Sub.untag, trivial⟩, ?_, Sub.refl _, trivial⟩
            show Sub (.int .i64 (IntKind.i64.wrap ((s : Nat) + (j : Nat) : Int))) _
            rw [hend]
            have e2 : s + j = (tg' :: r).length - (r2.drop j).length := by
              rw [List.length_drop, List.length_cons, hs]; omega
            rw [e2]
            exact Sub.refl _
    · rw [if_neg hn] at htk
      have d2 : decide (((n : Nat) : Int) > IntKind.i64.wrap ((((tg' :: r).map byteRow).length : Int) - (s : Nat))) = true := by rw [hsub]; simp; omega
      repeat' first
        | refine WpA.seq ?_
        | refine WpA.region ?_
        | refine WpOps.op _ rfl rfl rfl rfl rfl ?_
        | refine WpOps.box _ rfl rfl rfl rfl rfl ?_
        | refine WpOps.alloc _ rfl rfl rfl rfl rfl rfl ?_
        | refine WpOps.store rfl rfl rfl rfl rfl rfl rfl rfl rfl rfl ?_
        | refine WpOps.skip rfl rfl rfl ?_
        | refine WpOps.build _ rfl rfl rfl rfl rfl ?_
        | refine WpOps.sh _ rfl rfl rfl rfl rfl ?_
        | (refine WpOps.call rfl rfl rfl rfl rfl (by exact hHd _) ?_; rintro _ _ ⟨rfl, rfl⟩)
        | refine WpOps.gsplit _ rfl rfl rfl (fun h => ?_) (fun h => ?_)
        | refine WpA.block ?_
        | refine WpA.exit ?_
        | refine WpOps.nil ?_
        | refine WpA.ret ?_
        | refine WpA.skip ?_
        | refine WpA.condT rfl ?_
        | refine WpA.condF rfl ?_
        | refine WpA.draw (by kernel_rfl) ?_
        | refine LexA.op _ rfl rfl rfl rfl rfl ?_
        | refine LexA.skip rfl rfl rfl ?_
        | refine LexA.build _ rfl rfl rfl rfl rfl ?_
        | refine LexA.sh _ rfl rfl rfl rfl rfl ?_
        | refine LexA.call rfl rfl rfl rfl rfl (by exact hHd _) ?_
        | refine LexA.gsplit _ rfl rfl rfl (fun h => ?_) (fun h => ?_)
        | refine LexA.nil ?_
      · exact fail htk rfl rfl rfl
      · exfalso
        have h' := h.symm.trans d2
        cases h'
end Go.Gp.Try

/- The reference's octets: Decode; that both agree. -/
namespace Go.Gp.Try
open Go.Proofs
set_option linter.unusedVariables false
set_option linter.unusedSimpArgs false
set_option maxHeartbeats 4000000
set_option maxRecDepth 100000

def refDecP (b : List UInt8) : Oct × Nat := if 65536 < b.length then (zeroOct, 4) else match tk 12 b with
  | some (o, []) => if refChk o = 0 then (o, 0) else (zeroOct, 12)
  | _ => (zeroOct, 12)

theorem tk_size {k : Nat} {b r : List UInt8} {o : Oct} (h : tk k b = some (o, r)) : o.size + r.length = b.length := by
  unfold tk at h
  split at h
  · rename_i o' r' hp
    split at h
    · injection h with h
      injection h with h1 h2
      subst h1; subst h2
      exact parse_size hp
    · cases h
  · cases h

theorem rDecode_A (b : List UInt8) (H : List AObj) (hb : b.length ≤ 1000000000000) :
    CallsA E 40 [.sl .no 1 (b.map byteRow)] H (Is H (.tup [.agg (refDecP b).1.cells, .int .i64 ((refDecP b).2 : Nat)])) := by
  have bd : ∀ (o : Oct) (e : Int), Bd H.length (.tup [.agg o.cells, .int .i64 e]) := fun o e => .tup fun x hx => by
    simp only [List.mem_cons, List.not_mem_nil, or_false] at hx
    rcases hx with rfl | rfl
    · exact Oct.bdA _ _
    · exact .int
  have fail : ∀ (n : Nat), refDecP b = (zeroOct, n) → ∀ {L : List AObj} {t : Slots} {rs : List ResultVar} {as' : List AV}, resL L Try.E.T t rs = some as' → resN H.length t rs = rs.map (fun _ => H.length) → as' = [.agg [.int .u8 0, .sl .full 0 [], .sl .full 0 []], .int .i64 (n : Nat)] → retK Try.E rs H (Is H (.tup [.agg (refDecP b).1.cells, .int .i64 ((refDecP b).2 : Nat)])) .ret t (H ++ L) := by
    intro n hn L t rs as' h1 h2 h3
    subst h3
    rw [hn]
    exact retK.sub (.inr rfl) rfl (TrOk.refl H) h1 h2 (Sub.tup (vs := [.agg zeroOct.cells, .int .i64 n]) ⟨zeroOct_sub, Sub.refl _, trivial⟩) (bd _ _) ⟨rfl, rfl⟩
  have hlen : (b.map byteRow).length = b.length := List.length_map _
  have hT := fun H => take_A 12 b H (by decide) hb
  refine .enter Try.func40 rfl rfl rfl 32 Try.ntmps40 (Nat.le_of_ble_eq_true rfl) ?_
  obtain ⟨b1, h1⟩ : ∃ b1, decide ((((b.map byteRow).length : Nat) : Int) > 65536) = b1 := ⟨_, rfl⟩
  repeat' first
    | refine WpA.seq ?_
    | refine WpA.region ?_
    | refine WpOps.op _ rfl rfl rfl rfl rfl ?_
    | refine WpOps.box _ rfl rfl rfl rfl rfl ?_
    | refine WpOps.alloc _ rfl rfl rfl rfl rfl rfl ?_
    | refine WpOps.store rfl rfl rfl rfl rfl rfl rfl rfl rfl rfl ?_
    | refine WpOps.skip rfl rfl rfl ?_
    | refine WpOps.build _ rfl rfl rfl rfl rfl ?_
    | refine WpOps.sh _ rfl rfl rfl rfl rfl ?_
    | refine WpOps.gsplit _ rfl rfl rfl (fun h => ?_) (fun h => ?_)
    | refine WpA.block ?_
    | refine WpA.exit ?_
    | refine WpOps.nil ?_
    | refine WpA.ret ?_
    | refine WpA.skip ?_
    | refine WpA.draw (by kernel_rfl) ?_
    | refine LexA.op _ rfl rfl rfl rfl rfl ?_
    | refine LexA.skip rfl rfl rfl ?_
    | refine LexA.build _ rfl rfl rfl rfl rfl ?_
    | refine LexA.sh _ rfl rfl rfl rfl rfl ?_
    | refine LexA.gsplit _ rfl rfl rfl (fun h => ?_) (fun h => ?_)
    | refine LexA.nil ?_
  refine WpA.cond b1 (congrArg AV.bool h1) (fun h => ?_) (fun h => ?_)
  · subst h
    have h1 := of_decide_eq_true h1
    have e : refDecP b = (zeroOct, 4) := by rw [refDecP, if_pos (by omega)]
    repeat' first
      | refine WpA.seq ?_
      | refine WpA.region ?_
      | refine WpOps.op _ rfl rfl rfl rfl rfl ?_
      | refine WpOps.box _ rfl rfl rfl rfl rfl ?_
      | refine WpOps.alloc _ rfl rfl rfl rfl rfl rfl ?_
      | refine WpOps.store rfl rfl rfl rfl rfl rfl rfl rfl rfl rfl ?_
      | refine WpOps.skip rfl rfl rfl ?_
      | refine WpOps.build _ rfl rfl rfl rfl rfl ?_
      | refine WpOps.sh _ rfl rfl rfl rfl rfl ?_
      | refine WpOps.gsplit _ rfl rfl rfl (fun h => ?_) (fun h => ?_)
      | refine WpA.block ?_
      | refine WpA.exit ?_
      | refine WpOps.nil ?_
      | refine WpA.ret ?_
      | refine WpA.skip ?_
      | refine WpA.draw (by kernel_rfl) ?_
      | refine LexA.op _ rfl rfl rfl rfl rfl ?_
      | refine LexA.skip rfl rfl rfl ?_
      | refine LexA.build _ rfl rfl rfl rfl rfl ?_
      | refine LexA.sh _ rfl rfl rfl rfl rfl ?_
      | refine LexA.gsplit _ rfl rfl rfl (fun h => ?_) (fun h => ?_)
      | refine LexA.nil ?_
    exact fail 4 e rfl rfl rfl
  subst h
  have h1 := of_decide_eq_false h1
  have hd0 : refDecP b = match tk 12 b with
      | some (o, []) => if refChk o = 0 then (o, 0) else (zeroOct, 12)
      | _ => (zeroOct, 12) := by rw [refDecP, if_neg (by omega)]
  cases hq : tk 12 b with
  | none =>
    have e : takeV 12 b = .tup [.agg zeroOct.cells, .int .i64 0, .bool false] := by unfold takeV; rw [hq]
    rw [e] at hT
    rw [hq] at hd0
    repeat' first
      | refine WpA.seq ?_
      | refine WpA.region ?_
      | refine WpOps.op _ rfl rfl rfl rfl rfl ?_
      | refine WpOps.box _ rfl rfl rfl rfl rfl ?_
      | refine WpOps.alloc _ rfl rfl rfl rfl rfl rfl ?_
      | refine WpOps.store rfl rfl rfl rfl rfl rfl rfl rfl rfl rfl ?_
      | refine WpOps.skip rfl rfl rfl ?_
      | refine WpOps.build _ rfl rfl rfl rfl rfl ?_
      | refine WpOps.sh _ rfl rfl rfl rfl rfl ?_
      | (refine WpOps.call rfl rfl rfl rfl rfl (by exact hT _) ?_; rintro _ _ ⟨rfl, rfl⟩)
      | refine WpOps.gsplit _ rfl rfl rfl (fun h => ?_) (fun h => ?_)
      | refine WpA.block ?_
      | refine WpA.exit ?_
      | refine WpOps.nil ?_
      | refine WpA.ret ?_
      | refine WpA.skip ?_
      | refine WpA.condT rfl ?_
      | refine WpA.condF rfl ?_
      | refine WpA.cond _ rfl (fun h => ?_) (fun h => ?_)
      | refine WpA.draw (by kernel_rfl) ?_
      | refine LexA.op _ rfl rfl rfl rfl rfl ?_
      | refine LexA.skip rfl rfl rfl ?_
      | refine LexA.build _ rfl rfl rfl rfl rfl ?_
      | refine LexA.sh _ rfl rfl rfl rfl rfl ?_
      | refine LexA.call rfl rfl rfl rfl rfl (by exact hT _) ?_
      | refine LexA.gsplit _ rfl rfl rfl (fun h => ?_) (fun h => ?_)
      | refine LexA.nil ?_
    exact fail 12 hd0 rfl rfl rfl
  | some x =>
    obtain ⟨o, rest⟩ := x
    have hsz := tk_size hq
    have e : takeV 12 b = .tup [.agg o.cells, .int .i64 ((b.length - rest.length : Nat) : Int), .bool true] := by unfold takeV; rw [hq]
    rw [e] at hT
    rw [hq] at hd0
    have hC := fun H => rCheck_A o H (by omega)
    repeat' first
      | refine WpA.seq ?_
      | refine WpA.region ?_
      | refine WpOps.op _ rfl rfl rfl rfl rfl ?_
      | refine WpOps.box _ rfl rfl rfl rfl rfl ?_
      | refine WpOps.alloc _ rfl rfl rfl rfl rfl rfl ?_
      | refine WpOps.store rfl rfl rfl rfl rfl rfl rfl rfl rfl rfl ?_
      | refine WpOps.skip rfl rfl rfl ?_
      | refine WpOps.build _ rfl rfl rfl rfl rfl ?_
      | refine WpOps.sh _ rfl rfl rfl rfl rfl ?_
      | (refine WpOps.call rfl rfl rfl rfl rfl (by exact hT _) ?_; rintro _ _ ⟨rfl, rfl⟩)
      | (refine WpOps.call rfl rfl rfl rfl rfl (by exact hC _) ?_; rintro _ _ ⟨rfl, rfl⟩)
      | refine WpOps.gsplit _ rfl rfl rfl (fun h => ?_) (fun h => ?_)
      | refine WpA.block ?_
      | refine WpA.exit ?_
      | refine WpOps.nil ?_
      | refine WpA.ret ?_
      | refine WpA.skip ?_
      | refine WpA.condT rfl ?_
      | refine WpA.condF rfl ?_
      | refine WpA.cond _ rfl (fun h => ?_) (fun h => ?_)
      | refine WpA.draw (by kernel_rfl) ?_
      | refine LexA.op _ rfl rfl rfl rfl rfl ?_
      | refine LexA.skip rfl rfl rfl ?_
      | refine LexA.build _ rfl rfl rfl rfl rfl ?_
      | refine LexA.sh _ rfl rfl rfl rfl rfl ?_
      | refine LexA.call rfl rfl rfl rfl rfl (by exact hT _) ?_
      | refine LexA.call rfl rfl rfl rfl rfl (by exact hC _) ?_
      | refine LexA.gsplit _ rfl rfl rfl (fun h => ?_) (fun h => ?_)
      | refine LexA.nil ?_
    · have h' : ((((b.length - rest.length : Nat) : Int)) != (((b.map byteRow).length : Nat) : Int)) = true := h
      rw [hlen] at h'
      have e2 : refDecP b = (zeroOct, 12) := by
        rw [hd0]
        cases rest with
        | nil => simp at h'
        | cons c l => rfl
      exact fail 12 e2 rfl rfl rfl
    all_goals
      rename_i h0
      have h' : ((((b.length - rest.length : Nat) : Int)) != (((b.map byteRow).length : Nat) : Int)) = false := h0
      rw [hlen, bne_eq_false_iff_eq] at h'
      have hrest : rest = [] := List.length_eq_zero_iff.1 (by omega)
      subst hrest
    · have hc : ¬ refChk o = 0 := by
        have h2 : ((refChk o : Nat) : Int) ≠ 0 := by simpa using h
        omega
      have e2 : refDecP b = (zeroOct, 12) := by
        rw [hd0]
        show (if refChk o = 0 then (o, 0) else (zeroOct, 12)) = _
        rw [if_neg hc]
      exact fail 12 e2 rfl rfl rfl
    · have hc : refChk o = 0 := by
        have h2 : ((refChk o : Nat) : Int) = 0 := by simpa using h
        omega
      have e2 : refDecP b = (o, 0) := by
        rw [hd0]
        show (if refChk o = 0 then (o, 0) else (zeroOct, 12)) = _
        rw [if_pos hc]
      rw [e2]
      exact retK.sub (.inr rfl) rfl (TrOk.refl H) (L := _) rfl rfl (Sub.tup (vs := [.agg o.cells, .int .i64 0]) ⟨Sub.refl _, Sub.refl _, trivial⟩) (bd _ _) ⟨rfl, rfl⟩

/-! ### Both agree -/
theorem pre_len : ∀ (o : Oct) (d : Nat), (o.pre d).length = o.cnt
  | .mk t bs is, d => by
    have : ∀ (l : List Oct) (d : Nat), (∀ x ∈ l, SizeOf.sizeOf x < SizeOf.sizeOf (Oct.mk t bs is)) → (Oct.preL l d).length = (l.map Oct.cnt).sum := by
      intro l
      induction l with
      | nil => intro d _; rw [preL_nil]; rfl
      | cons a l ih =>
        intro d h
        have h2 := h a List.mem_cons_self
        have h3 := pre_len a d
        rw [preL_cons, List.length_append, h3, ih d fun x hx => h x (List.mem_cons_of_mem _ hx), List.map_cons, List.sum_cons]
    have h1 := this is (d + 1) fun x hx => by have := List.sizeOf_lt_of_mem hx; simp only [Oct.mk.sizeOf_spec]; omega
    have h2 : ((Oct.mk t bs is).pre d).length = (Oct.preL is (d + 1)).length + 1 := rfl
    rw [cnt_mk, h2, h1]
    omega
termination_by o => SizeOf.sizeOf o
decreasing_by assumption

theorem foldl_max_le {l : List Nat} {a b : Nat} : l.foldl max a ≤ b ↔ a ≤ b ∧ ∀ x ∈ l, x ≤ b := by
  induction l generalizing a with
  | nil => simp
  | cons x l ih =>
    rw [List.foldl_cons, ih]
    simp only [List.mem_cons, forall_eq_or_imp, Nat.max_le, and_assoc]

theorem pre_dep : ∀ (o : Oct) (d : Nat), ((o.pre d).any fun p => decide (12 < p.2)) = decide (12 < d + o.dep - 1)
  | .mk t bs is, d => by
    have : ∀ (l : List Oct) (d : Nat), (∀ x ∈ l, SizeOf.sizeOf x < SizeOf.sizeOf (Oct.mk t bs is)) → (((Oct.preL l d).any fun p => decide (12 < p.2)) = true ↔ ∃ x ∈ l, 12 < d + x.dep - 1) := by
      intro l
      induction l with
      | nil => intro d _; rw [preL_nil]; simp
      | cons a l ih =>
        intro d h
        have h2 := h a List.mem_cons_self
        have h3 := pre_dep a d
        have h4 := ih d fun x hx => h x (List.mem_cons_of_mem _ hx)
        rw [preL_cons, List.any_append, h3, Bool.or_eq_true, h4, decide_eq_true_eq]
        simp
    have h1 := this is (d + 1) fun x hx => by have := List.sizeOf_lt_of_mem hx; simp only [Oct.mk.sizeOf_spec]; omega
    have h2 : (12 < d + (1 + (is.map Oct.dep).foldl max 0) - 1) ↔ (12 < d ∨ ∃ x ∈ is, 12 < d + 1 + x.dep - 1) := by
      constructor
      · intro h
        by_cases hd : 12 < d
        · exact .inl hd
        · refine .inr ?_
          apply Classical.byContradiction
          intro hn
          have : (is.map Oct.dep).foldl max 0 ≤ 12 - d := foldl_max_le.2 ⟨by omega, fun y hy => by
            obtain ⟨x, hx, rfl⟩ := List.mem_map.1 hy
            apply Classical.byContradiction
            intro h5
            exact hn ⟨x, hx, by omega⟩⟩
          omega
      · rintro (h | ⟨x, hx, h⟩)
        · omega
        · have := (foldl_max_le (l := is.map Oct.dep) (a := 0) (b := (is.map Oct.dep).foldl max 0)).1 (Nat.le_refl _)
          have := this.2 _ (List.mem_map_of_mem hx)
          omega
    rw [dep_mk, Bool.eq_iff_iff, decide_eq_true_eq, h2, ← h1, Oct.pre, List.any_cons, Bool.or_eq_true, decide_eq_true_eq]
    rfl
termination_by o => SizeOf.sizeOf o
decreasing_by assumption

theorem pre_good : ∀ (o : Oct) (d : Nat), ((o.pre d).all fun p => p.1.good) = o.shp
  | .mk t bs is, d => by
    have : ∀ (l : List Oct) (d : Nat), (∀ x ∈ l, SizeOf.sizeOf x < SizeOf.sizeOf (Oct.mk t bs is)) → ((Oct.preL l d).all fun p => p.1.good) = (l.map Oct.shp).all id := by
      intro l
      induction l with
      | nil => intro d _; rw [preL_nil]; rfl
      | cons a l ih =>
        intro d h
        have h2 := h a List.mem_cons_self
        have h3 := pre_good a d
        rw [preL_cons, List.all_append, h3, ih d fun x hx => h x (List.mem_cons_of_mem _ hx), List.map_cons, List.all_cons]
        rfl
    have h1 := this is (d + 1) fun x hx => by have := List.sizeOf_lt_of_mem hx; simp only [Oct.mk.sizeOf_spec]; omega
    rw [shp_mk, ← h1, Oct.pre, List.all_cons]
    rfl
termination_by o => SizeOf.sizeOf o
decreasing_by assumption

theorem dep_pos (o : Oct) : 1 ≤ o.dep := by cases o; rw [dep_mk]; omega

theorem checks_same (o : Oct) : refChk o = checkP o := by
  unfold refChk checkP
  rw [pre_len, pre_dep, pre_good, Nat.zero_add]
  have hd := dep_pos o
  have h1 : (4000 < o.cnt ∨ 12 < o.dep) ↔ (decide (4000 < o.cnt) || decide (12 < 1 + o.dep - 1)) = true := by
    simp only [Bool.or_eq_true, decide_eq_true_eq]
    omega
  have h2 : 65536 < o.rsz ↔ 65536 < o.size := by
    have := rsz_le_size o
    constructor
    · intro h; omega
    · intro h
      apply Classical.byContradiction
      intro hn
      have := this.2 (by omega)
      omega
  by_cases h : 4000 < o.cnt ∨ 12 < o.dep
  · rw [if_pos h, if_pos (h1.1 h)]
  · rw [if_neg h, if_neg (fun h' => h (h1.2 h'))]
    by_cases h3 : 65536 < o.rsz
    · rw [if_pos h3, if_pos (h2.1 h3)]
    · rw [if_neg h3, if_neg (fun h' => h3 (h2.2 h'))]

theorem shp_clean : ∀ (o : Oct), o.shp = true → o.clean = true
  | .mk t bs is, h => by
    rw [shp_mk, Bool.and_eq_true] at h
    rw [clean_mk, Bool.and_eq_true]
    refine ⟨?_, ?_⟩
    · have h1 := h.1
      have h2 : decide (0 < t.toNat) = true := by
        have h3 : ((decide (0 < t.toNat) && (decide (128 ≤ t.toNat) || is.length == 0)) && (decide (t.toNat < 128) || bs.length == 0)) = true := h1
        simp only [Bool.and_eq_true] at h3
        exact h3.1.1
      have h4 := of_decide_eq_true h2
      rw [bne_iff_ne]
      intro e; subst e
      exact absurd h4 (by decide)
    · rw [List.all_eq_true]
      intro x hx
      obtain ⟨y, hy, rfl⟩ := List.mem_map.1 hx
      have h2 := h.2
      rw [List.all_eq_true] at h2
      have h3 := h2 _ (List.mem_map_of_mem hy)
      have := List.sizeOf_lt_of_mem hy
      exact shp_clean y h3
termination_by o => SizeOf.sizeOf o
decreasing_by simp only [Oct.mk.sizeOf_spec]; omega

theorem decodes_same (b : List UInt8) : refDecP b = decP b := by
  unfold refDecP decP
  by_cases hb : 65536 < b.length
  · rw [if_pos hb, if_pos hb]
  · rw [if_neg hb, if_neg hb]
    unfold tk
    cases parse 12 b with
    | none => rfl
    | some x =>
      obtain ⟨o, r⟩ := x
      dsimp only
      cases r with
      | cons c l => cases o.clean <;> rfl
      | nil =>
        dsimp only
        cases hc : o.clean with
        | true => simp only [if_true]; rw [checks_same]
        | false =>
          have : ¬ checkP o = 0 := by
            intro h0
            rw [← checks_same] at h0
            unfold refChk at h0
            split at h0
            · cases h0
            · split at h0
              · rename_i hs
                rw [shp_clean o hs] at hc
                cases hc
              · cases h0
          rw [if_neg this]
          rfl
end Go.Gp.Try

/- The octet codec: what is encoded is read back. -/
namespace Go.Gp.Try
open Go.Proofs
set_option linter.unusedVariables false
set_option linter.unusedSimpArgs false
set_option maxRecDepth 100000
set_option maxHeartbeats 1000000

theorem beVal_beN : ∀ (n x : Nat), beVal 0 (beN x n) = x % 2 ^ (8 * n)
  | 0, x => by simp [beN, beVal, Nat.mod_one]
  | n + 1, x => by
    have hl : (beN x n).length = n := beN_length x n
    rw [beN, beVal, beVal_split, hl, beVal_beN n x, UInt8.toNat_ofNat']
    have h1 : 2 ^ (8 * (n + 1)) = 2 ^ (8 * n) * 256 := by rw [show 8 * (n + 1) = 8 * n + 8 from by omega, Nat.pow_add]
    rw [h1, Nat.mod_mul]
    simp only [Nat.mul_zero, Nat.zero_add]
    rw [show (2 : Nat) ^ 8 = 256 from rfl, Nat.mul_comm, Nat.add_comm]

theorem be_val {x : Nat} (h : x < 18446744073709551616) : beVal 0 (be x) = x := by
  rw [be, beVal_beN]
  apply Nat.mod_eq_of_lt
  by_cases h0 : x = 0
  · subst h0; exact Nat.two_pow_pos _
  · have h1 : x < 2 ^ bitLen x := by
      unfold bitLen
      rw [if_neg h0]
      exact Nat.lt_log2_self
    exact Nat.lt_of_lt_of_le h1 (Nat.pow_le_pow_right (by decide) (by omega))

theorem be_head (x : Nat) : (be x).head? ≠ some 0 := by
  induction x using Nat.strongRecOn with
  | _ x ih =>
  by_cases h0 : x = 0
  · subst h0; rw [be_zero]; simp
  · rw [be_pos (by omega)]
    by_cases h1 : x / 256 = 0
    · rw [h1, be_zero, List.nil_append, List.head?_cons]
      intro e
      injection e with e
      have := congrArg UInt8.toNat e
      rw [UInt8.toNat_ofNat'] at this
      have h2 : x < 256 := by omega
      rw [Nat.mod_eq_of_lt (by simpa using h2)] at this
      exact h0 this
    · have h2 := ih (x / 256) (by omega)
      have hne : be (x / 256) ≠ [] := by
        intro e
        rw [be_pos (by omega)] at e
        simp at e
      obtain ⟨c, l, hcl⟩ := List.exists_cons_of_ne_nil hne
      rw [hcl] at h2 ⊢
      exact h2

/-- Bytes that do not begin with nought are what their number gives. -/
theorem be_canon : ∀ (bs : List UInt8), bs.head? ≠ some 0 → be (beVal 0 bs) = bs := by
  intro bs h
  have h1 := beN_beVal bs
  rw [be]
  have : (bitLen (beVal 0 bs) + 7) / 8 = bs.length := by
    cases bs with
    | nil => rfl
    | cons b r =>
      have hb : b ≠ 0 := by intro e; subst e; exact h rfl
      have hb0 : 0 < b.toNat := by
        rcases Nat.eq_zero_or_pos b.toNat with h | h
        · exact absurd (UInt8.toNat_inj.1 h) hb
        · exact h
      have hlt := beVal_lt (b :: r) 0 0 (by decide)
      have hge : 2 ^ (8 * r.length) ≤ beVal 0 (b :: r) := by
        rw [beVal, beVal_split]
        have : 1 * 2 ^ (8 * r.length) ≤ (256 * 0 + b.toNat) * 2 ^ (8 * r.length) := Nat.mul_le_mul_right _ (by omega)
        omega
      rw [Nat.zero_add] at hlt
      have h2 := bitLen_lt hlt
      have h3 := bitLen_shift hge
      have h4 : 0 < beVal 0 (b :: r) / 2 ^ (8 * r.length) := Nat.div_pos hge (Nat.two_pow_pos _)
      have h5 : 0 < bitLen (beVal 0 (b :: r) / 2 ^ (8 * r.length)) := by unfold bitLen; rw [if_neg (by omega)]; omega
      simp only [List.length_cons] at h2 ⊢
      omega
  rw [this]
  exact h1

theorem lenOf_lenB {n : Nat} (hn : n < 16777216) (r : List UInt8) : lenOf (lenB n ++ r) = some (n, r) := by
  unfold lenB
  by_cases h1 : n < 128
  · rw [if_pos h1]
    show lenOf (UInt8.ofNat n :: r) = _
    have h2 : (UInt8.ofNat n).toNat = n := by rw [UInt8.toNat_ofNat']; omega
    rw [lenOf_cons, h2, if_pos h1]
  · rw [if_neg h1]
    have hge := wide_ge (n := n) (by omega)
    have hle : wide n ≤ 4 := by
      have := bitLen_lt (x := n) (k := 24) hn
      unfold wide; rw [if_neg h1]; omega
    have hl := beN_length n (wide n - 1)
    have h2 : (UInt8.ofNat (128 + (wide n - 1))).toNat = 128 + (wide n - 1) := by rw [UInt8.toNat_ofNat']; omega
    show lenOf (UInt8.ofNat (128 + (wide n - 1)) :: (beN n (wide n - 1) ++ r)) = _
    rw [lenOf_cons, h2, if_neg (by omega)]
    have h3 : 128 + (wide n - 1) - 128 = wide n - 1 := by omega
    rw [h3]
    have htk : (beN n (wide n - 1) ++ r).take (wide n - 1) = beN n (wide n - 1) := List.take_left' hl
    have hdr : (beN n (wide n - 1) ++ r).drop (wide n - 1) = r := by exact List.drop_left' hl
    have hv : beVal 0 (beN n (wide n - 1)) = n := by
      rw [beVal_beN]
      apply Nat.mod_eq_of_lt
      have h5 : n < 2 ^ bitLen n := by
        unfold bitLen
        rw [if_neg (by omega)]
        exact Nat.lt_log2_self
      refine Nat.lt_of_lt_of_le h5 (Nat.pow_le_pow_right (by decide) ?_)
      have h6 : wide n = 1 + (bitLen n + 7) / 8 := by unfold wide; rw [if_neg h1]
      omega
    rw [htk, hdr, hv, if_pos]
    refine ⟨by omega, by omega, by rw [List.length_append, hl]; omega, by omega⟩
end Go.Gp.Try
