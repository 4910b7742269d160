/- The manifest's checks: Check, both. -/
import Derived.Test.YtmacdhglhafldaaW3
namespace Go.Gp.Try
open Go.Proofs
set_option linter.unusedVariables false
set_option linter.unusedSimpArgs false
set_option maxHeartbeats 4000000

abbrev lt (x y : List UInt8) : Bool := Op.bytesLess x y

def okAt (fs : List File) (i : Nat) : Bool :=
  match fs[i]? with
  | none => true
  | some f => name f.name && (match i with | 0 => true | k + 1 => match fs[k]? with | none => true | some g => lt g.name f.name)
def okUpTo (fs : List File) (i : Nat) : Bool := (List.range i).all (okAt fs)
theorem okUpTo_succ (fs : List File) (i : Nat) : okUpTo fs (i + 1) = (okUpTo fs i && okAt fs i) := by
  unfold okUpTo
  rw [List.range_succ, List.all_append]
  simp
def manOk (m : Man) : Bool := win m.a m.b && okUpTo m.fs m.fs.length
def check (m : Man) : Int := if 200 < m.fs.length then 4 else if manOk m then 0 else 8

theorem winCode_zero (a b : Int) : (winCode a b == 0) = win a b := by unfold winCode; cases win a b <;> rfl

theorem rows_bd (n : Nat) (fs : List File) : Bd n (.sl .no 33 (rows fs)) := by
  refine .sl (fun _ _ e => by cases e) fun x hx e he => ?_
  obtain ⟨f, _, rfl⟩ := List.mem_map.1 hx
  rcases List.mem_cons.1 he with rfl | he
  · exact .str
  · obtain ⟨i, _, rfl⟩ := List.mem_map.1 he
    exact .int

theorem Check_A (m : Man) (H : List AObj) (hb : m.fs.length ≤ 1000000000000000) : CallsA E 9 [m.av .no] H (Is H (.int .i64 (check m))) := by
  refine .enter Try.func9 rfl rfl rfl 47 Try.ntmps9 (Nat.le_of_ble_eq_true rfl) ?_
  repeat' first
    | refine WpA.seq ?_
    | refine WpA.region ?_
    | refine WpOps.op _ rfl rfl rfl rfl rfl ?_
    | refine WpOps.box _ rfl rfl rfl rfl rfl ?_
    | refine WpOps.alloc _ rfl rfl rfl rfl rfl rfl ?_
    | refine WpOps.store rfl rfl rfl rfl rfl rfl rfl rfl rfl rfl ?_
    | refine WpOps.skip rfl rfl rfl ?_
    | refine WpOps.build _ rfl rfl rfl rfl rfl ?_
    | refine WpOps.sh _ rfl rfl rfl rfl rfl ?_
    | (refine WpOps.call rfl rfl rfl rfl rfl (by exact winCheck_A _ _ _) ?_; rintro _ _ ⟨rfl, rfl⟩)
    | refine WpOps.gsplit _ rfl rfl rfl (fun h => ?_) (fun h => ?_)
    | refine WpA.block ?_
    | refine WpA.exit ?_
    | refine WpOps.nil ?_
    | refine WpA.ret ?_
    | refine WpA.skip ?_
    | refine WpA.condT rfl ?_
    | refine WpA.condF rfl ?_
    | refine WpA.cond _ rfl (fun h => ?_) (fun h => ?_)
    | refine WpA.draw (by kernel_rfl) ?_
    | refine LexA.op _ rfl rfl rfl rfl rfl ?_
    | refine LexA.skip rfl rfl rfl ?_
    | refine LexA.build _ rfl rfl rfl rfl rfl ?_
    | refine LexA.sh _ rfl rfl rfl rfl rfl ?_
    | refine LexA.call rfl rfl rfl rfl rfl (by exact winCheck_A _ _ _) ?_
    | refine LexA.gsplit _ rfl rfl rfl (fun h => ?_) (fun h => ?_)
    | refine LexA.nil ?_
  · refine retK.ok rfl rfl (congrArg (AV.int .i64) ?_) .int
    simp [rows_length] at h
    simp [check]; omega
  · simp [rows_length] at h
    refine WpA.loopS (α := Nat) (fun i => [(1, .ptr H.length 0 0), (3, .bool (win m.a m.b && okUpTo m.fs i)), (15, .sl .no 33 (rows m.fs)), (16, .int .i64 (rows m.fs).length), (17, .int .i64 i)]) (fun _ => H ++ [AObj.cells (m.cells .no)]) (fun i => i ≤ m.fs.length) (fun i => m.fs.length - i) 0 (Nat.zero_le _) ⟨rfl, ?_, rfl, rfl, rfl, trivial⟩ rfl ?_
    · show AV.bool (winCode m.a m.b == 0) = _
      rw [winCode_zero]
      simp [okUpTo]
    rintro i hi
    refine WpA.scope ?_
    repeat' first
      | refine WpA.seq ?_
      | refine WpA.region ?_
      | refine WpOps.op _ rfl rfl rfl rfl rfl ?_
      | refine WpOps.box _ rfl rfl rfl rfl rfl ?_
      | refine WpOps.alloc _ rfl rfl rfl rfl rfl rfl ?_
      | refine WpOps.store rfl rfl rfl rfl rfl rfl rfl rfl rfl rfl ?_
      | refine WpOps.skip rfl rfl rfl ?_
      | refine WpOps.build _ rfl rfl rfl rfl rfl ?_
      | refine WpOps.sh _ rfl rfl rfl rfl rfl ?_
      | (refine WpOps.call rfl rfl rfl rfl rfl (by exact Name_A _ _) ?_; rintro _ _ ⟨rfl, rfl⟩)
      | refine WpOps.gsplit _ rfl rfl rfl (fun h => ?_) (fun h => ?_)
      | refine WpA.block ?_
      | refine WpA.exit ?_
      | refine WpOps.nil ?_
      | refine WpA.ret ?_
      | refine WpA.skip ?_
      | refine WpA.condT rfl ?_
      | refine WpA.condF rfl ?_
      | refine WpA.cond _ rfl (fun h => ?_) (fun h => ?_)
      | refine WpA.draw (by kernel_rfl) ?_
      | refine LexA.op _ rfl rfl rfl rfl rfl ?_
      | refine LexA.skip rfl rfl rfl ?_
      | refine LexA.build _ rfl rfl rfl rfl rfl ?_
      | refine LexA.sh _ rfl rfl rfl rfl rfl ?_
      | refine LexA.call rfl rfl rfl rfl rfl (by exact Name_A _ _) ?_
      | refine LexA.gsplit _ rfl rfl rfl (fun h => ?_) (fun h => ?_)
      | refine LexA.nil ?_
    · simp [rows_length] at h
      have hlt : i < m.fs.length := h
      clear h
      have hget : m.fs[i]? = some m.fs[i] := List.getElem?_eq_getElem hlt
      have hi0 := rows_get hlt
      have hwi : IntKind.i64.wrap ((i : Int) + 1) = ((i + 1 : Nat) : Int) := wrap64 (by omega) (by omega)
      have hlast : ∀ (b : Bool) (x : AObj) (t : Slots), Agree [(1, .ptr H.length 0 0), (3, .bool b), (15, .sl .no 33 (rows m.fs)), (16, .int .i64 (rows m.fs).length), (17, .int .i64 ((i + 1 : Nat) : Int))] t → b = (win m.a m.b && okUpTo m.fs (i + 1)) →
          ∃ H1 L T, H ++ [AObj.cells (m.cells .no), x] = H1 ++ L ∧ H1.length = (H ++ [AObj.cells (m.cells .no)]).length ∧ TrOk (H ++ [AObj.cells (m.cells .no)]) H1 ∧ Agree T t ∧ BdS (H ++ [AObj.cells (m.cells .no)]).length T ∧ (∀ v, AX.normal = .panic v → Bd (H ++ [AObj.cells (m.cells .no)]).length v) ∧
            ∃ a', a' ≤ m.fs.length ∧ m.fs.length - a' < m.fs.length - i ∧ Agree [(1, .ptr H.length 0 0), (3, .bool (win m.a m.b && okUpTo m.fs a')), (15, .sl .no 33 (rows m.fs)), (16, .int .i64 (rows m.fs).length), (17, .int .i64 a')] T ∧ H1 = H ++ [AObj.cells (m.cells .no)] := by
        intro b x t hA hb
        refine ⟨H ++ [AObj.cells (m.cells .no)], [x], _, by simp, rfl, TrOk.refl _, hA, ⟨.ptr (by simp), .bool, rows_bd _ _, .int, .int, trivial⟩, (fun v h => by cases h), i + 1, hlt, by omega, ⟨rfl, ?_, rfl, rfl, rfl, trivial⟩, rfl⟩
        show AV.bool b = _
        rw [hb]
      rcases i with _ | k
      · have hok : okAt m.fs 0 = name m.fs[0].name := by unfold okAt; rw [hget]; simp
        repeat' first
          | refine WpA.seq ?_
          | refine WpA.region ?_
          | refine WpOps.op _ rfl rfl rfl rfl rfl ?_
          | refine WpOps.box _ rfl rfl rfl rfl rfl ?_
          | refine WpOps.alloc _ rfl rfl rfl rfl rfl rfl ?_
          | refine WpOps.store rfl rfl rfl rfl rfl rfl rfl rfl rfl rfl ?_
          | refine WpOps.skip rfl rfl rfl ?_
          | refine WpOps.build _ rfl rfl rfl rfl rfl ?_
          | refine WpOps.sh _ rfl rfl rfl rfl rfl ?_
          | (refine WpOps.call rfl rfl rfl rfl rfl (by exact Name_A _ _) ?_; rintro _ _ ⟨rfl, rfl⟩)
          | refine WpOps.elem (m.fs[0]).row rfl rfl rfl rfl rfl rfl rfl rfl rfl (Int.natCast_nonneg _) (by exact hi0) ?_
          | refine WpOps.gsplit _ rfl rfl rfl (fun h => ?_) (fun h => ?_)
          | refine WpA.block ?_
          | refine WpA.exit ?_
          | refine WpOps.nil ?_
          | refine WpA.ret ?_
          | refine WpA.skip ?_
          | refine WpA.condT rfl ?_
          | refine WpA.condF rfl ?_
          | refine WpA.cond _ rfl (fun h => ?_) (fun h => ?_)
          | refine WpA.draw (by kernel_rfl) ?_
          | refine LexA.op _ rfl rfl rfl rfl rfl ?_
          | refine LexA.skip rfl rfl rfl ?_
          | refine LexA.build _ rfl rfl rfl rfl rfl ?_
          | refine LexA.sh _ rfl rfl rfl rfl rfl ?_
          | refine LexA.call rfl rfl rfl rfl rfl (by exact Name_A _ _) ?_
          | refine LexA.gsplit _ rfl rfl rfl (fun h => ?_) (fun h => ?_)
          | refine LexA.nil ?_
        all_goals refine .inr (hlast _ _ _ (by exact ⟨rfl, rfl, rfl, rfl, congrArg (AV.int .i64) hwi, trivial⟩) ?_)
        all_goals (rw [okUpTo_succ, hok]; clear hlast; cases hq1 : win m.a m.b <;> cases hq2 : okUpTo m.fs 0 <;> simp_all)
      · have hget' : m.fs[k]? = some m.fs[k] := List.getElem?_eq_getElem (by omega)
        have hok : okAt m.fs (k + 1) = (name m.fs[k + 1].name && lt m.fs[k].name m.fs[k + 1].name) := by
          unfold okAt; rw [hget]; simp only [hget']
        have hwk : IntKind.i64.wrap (((k + 1 : Nat) : Int) - 1) = (k : Int) := by rw [wrap64 (by omega) (by omega)]; omega
        have hk0 : 0 ≤ IntKind.i64.wrap (((k + 1 : Nat) : Int) - 1) := by rw [hwk]; omega
        have hk1 : (rows m.fs)[(IntKind.i64.wrap (((k + 1 : Nat) : Int) - 1)).toNat]? = some (m.fs[k]).row := by rw [hwk]; exact rows_get _
        repeat' first
          | refine WpA.seq ?_
          | refine WpA.region ?_
          | refine WpOps.op _ rfl rfl rfl rfl rfl ?_
          | refine WpOps.box _ rfl rfl rfl rfl rfl ?_
          | refine WpOps.alloc _ rfl rfl rfl rfl rfl rfl ?_
          | refine WpOps.store rfl rfl rfl rfl rfl rfl rfl rfl rfl rfl ?_
          | refine WpOps.skip rfl rfl rfl ?_
          | refine WpOps.build _ rfl rfl rfl rfl rfl ?_
          | refine WpOps.sh _ rfl rfl rfl rfl rfl ?_
          | (refine WpOps.call rfl rfl rfl rfl rfl (by exact Name_A _ _) ?_; rintro _ _ ⟨rfl, rfl⟩)
          | refine WpOps.elem (m.fs[k + 1]).row rfl rfl rfl rfl rfl rfl rfl rfl rfl (Int.natCast_nonneg _) (by exact hi0) ?_
          | refine LexA.elem (m.fs[k]).row rfl rfl rfl rfl rfl rfl rfl rfl rfl (by exact hk0) (by exact hk1) ?_
          | refine WpOps.gsplit _ rfl rfl rfl (fun h => ?_) (fun h => ?_)
          | refine WpA.block ?_
          | refine WpA.exit ?_
          | refine WpOps.nil ?_
          | refine WpA.ret ?_
          | refine WpA.skip ?_
          | refine WpA.condT rfl ?_
          | refine WpA.condF rfl ?_
          | refine WpA.cond _ rfl (fun h => ?_) (fun h => ?_)
          | refine WpA.draw (by kernel_rfl) ?_
          | refine LexA.op _ rfl rfl rfl rfl rfl ?_
          | refine LexA.skip rfl rfl rfl ?_
          | refine LexA.build _ rfl rfl rfl rfl rfl ?_
          | refine LexA.sh _ rfl rfl rfl rfl rfl ?_
          | refine LexA.call rfl rfl rfl rfl rfl (by exact Name_A _ _) ?_
          | refine LexA.gsplit _ rfl rfl rfl (fun h => ?_) (fun h => ?_)
          | refine LexA.nil ?_
        all_goals refine .inr (hlast _ _ _ (by exact ⟨rfl, rfl, rfl, rfl, congrArg (AV.int .i64) hwi, trivial⟩) ?_)
        all_goals
          have hz : ((k : Int) + 1 == 0) = false := by simp; omega
          rw [okUpTo_succ, hok]
          clear hlast hk0 hk1 hwk hwi hi0 hok hget hget'
          cases hq1 : win m.a m.b <;> cases hq2 : okUpTo m.fs (k + 1) <;> simp_all
    · refine .inl ?_
      simp [rows_length] at h
      have : i = m.fs.length := by omega
      subst this
      repeat' first
        | refine WpA.seq ?_
        | refine WpA.region ?_
        | refine WpOps.op _ rfl rfl rfl rfl rfl ?_
        | refine WpOps.box _ rfl rfl rfl rfl rfl ?_
        | refine WpOps.alloc _ rfl rfl rfl rfl rfl rfl ?_
        | refine WpOps.store rfl rfl rfl rfl rfl rfl rfl rfl rfl rfl ?_
        | refine WpOps.skip rfl rfl rfl ?_
        | refine WpOps.build _ rfl rfl rfl rfl rfl ?_
        | refine WpOps.sh _ rfl rfl rfl rfl rfl ?_
        | refine WpOps.gsplit _ rfl rfl rfl (fun h => ?_) (fun h => ?_)
        | refine WpA.block ?_
        | refine WpA.exit ?_
        | refine WpOps.nil ?_
        | refine WpA.ret ?_
        | refine WpA.skip ?_
        | refine WpA.condT rfl ?_
        | refine WpA.condF rfl ?_
        | refine WpA.cond _ rfl (fun h => ?_) (fun h => ?_)
        | refine WpA.draw (by kernel_rfl) ?_
        | refine LexA.op _ rfl rfl rfl rfl rfl ?_
        | refine LexA.skip rfl rfl rfl ?_
        | refine LexA.build _ rfl rfl rfl rfl rfl ?_
        | refine LexA.sh _ rfl rfl rfl rfl rfl ?_
        | refine LexA.gsplit _ rfl rfl rfl (fun h => ?_) (fun h => ?_)
        | refine LexA.nil ?_
      all_goals (refine retK.ok rfl rfl (congrArg (AV.int .i64) ?_) .int; rw [check, if_neg (by omega), manOk])
      · rw [Bool.not_eq_true'] at h; rw [h]; rfl
      · rw [Bool.not_eq_false'] at h; rw [h]; rfl
end Go.Gp.Try
