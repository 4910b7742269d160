/- Part of a proof: GpR6, GpO15 -/
import Derived.Test.YtmacdhglhafldaaK12
import Derived.Test.YtmacdhglhafldaaK19
import Derived.Test.YtmacdhglhafldaaK21

/- The reference's octets: head. -/
namespace Go.Gp.Try
open Go.Proofs
set_option linter.unusedVariables false
set_option linter.unusedSimpArgs false
set_option maxHeartbeats 4000000
set_option maxRecDepth 100000

/-- Tag, beginning of the content, its length. -/
def headP : List UInt8 → Option (UInt8 × Nat × Nat)
  | [] => none
  | tg :: r => if tg = 0 then none else match lenOf r with
    | none => none
    | some (n, r2) => some (tg, 1 + (r.length - r2.length), n)
def headV : Option (UInt8 × Nat × Nat) → AV
  | some (t, s, n) => .tup [u8 t, .int .i64 (s : Nat), .int .i64 (n : Nat), .bool true]
  | none => .tup [.int .u8 0, .int .i64 0, .int .i64 0, .bool false]
theorem headV_bd (n : Nat) (x : Option (UInt8 × Nat × Nat)) : Bd n (headV x) := by
  cases x with
  | none =>
    refine .tup fun e he => ?_
    simp only [List.mem_cons, List.not_mem_nil, or_false] at he
    rcases he with rfl | rfl | rfl | rfl
    · exact .int
    · exact .int
    · exact .int
    · exact .bool
  | some x =>
    refine .tup fun e he => ?_
    simp only [List.mem_cons, List.not_mem_nil, or_false] at he
    rcases he with rfl | rfl | rfl | rfl
    · exact .int
    · exact .int
    · exact .int
    · exact .bool

theorem rLen_len {n : Nat} (h : n < 16777216) : (rLen n).length = wide n := by rw [rLen_lenB h, lenB_length]

theorem rHead_A (b : List UInt8) (tg0 : Tag) (H : List AObj) (hb : b.length ≤ 1000000000000) : CallsA E 73 [.sl tg0 1 (b.map byteRow)] H (Is H (headV (headP b))) := by
  have fin : ∀ {L : List AObj} {t : Slots} {rs : List ResultVar} {as' : List AV} (x : Option (UInt8 × Nat × Nat)), headP b = x → resL L Try.E.T t rs = some as' → resN H.length t rs = rs.map (fun _ => H.length) → resV as' = headV x → retK Try.E rs H (Is H (headV (headP b))) .ret t (H ++ L) := by
    intro L t rs as' x hx h1 h2 h3
    rw [hx]
    exact retK.sub (.inr rfl) rfl (TrOk.refl H) h1 h2 (by rw [h3]; exact Sub.refl _) (headV_bd _ _) ⟨rfl, rfl⟩
  refine .enter Try.func73 rfl rfl rfl 73 Try.ntmps73 (Nat.le_of_ble_eq_true rfl) ?_
  match b, hb with
  | [], _ =>
    repeat' first
      | refine WpA.seq ?_
      | refine WpA.region ?_
      | refine WpOps.op _ rfl rfl rfl rfl rfl ?_
      | refine WpOps.box _ rfl rfl rfl rfl rfl ?_
      | refine WpOps.alloc _ rfl rfl rfl rfl rfl rfl ?_
      | refine WpOps.store rfl rfl rfl rfl rfl rfl rfl rfl rfl rfl ?_
      | refine WpOps.skip rfl rfl rfl ?_
      | refine WpOps.build _ rfl rfl rfl rfl rfl ?_
      | refine WpOps.sh _ rfl rfl rfl rfl rfl ?_
      | refine WpOps.gsplit _ rfl rfl rfl (fun h => ?_) (fun h => ?_)
      | refine WpA.block ?_
      | refine WpA.exit ?_
      | refine WpOps.nil ?_
      | refine WpA.ret ?_
      | refine WpA.skip ?_
      | refine WpA.condT rfl ?_
      | refine WpA.condF rfl ?_
      | refine WpA.cond _ rfl (fun h => ?_) (fun h => ?_)
      | refine WpA.draw (by kernel_rfl) ?_
      | refine LexA.op _ rfl rfl rfl rfl rfl ?_
      | refine LexA.skip rfl rfl rfl ?_
      | refine LexA.build _ rfl rfl rfl rfl rfl ?_
      | refine LexA.sh _ rfl rfl rfl rfl rfl ?_
      | refine LexA.gsplit _ rfl rfl rfl (fun h => ?_) (fun h => ?_)
      | refine LexA.nil ?_
    · exact fin none rfl rfl rfl rfl
    all_goals (simp at h)
  | [tg], _ =>
    have hn : headP [tg] = none := by
      show (if tg = 0 then none else none) = none
      split <;> rfl
    repeat' first
      | refine WpA.seq ?_
      | refine WpA.region ?_
      | refine WpOps.op _ rfl rfl rfl rfl rfl ?_
      | refine WpOps.box _ rfl rfl rfl rfl rfl ?_
      | refine WpOps.alloc _ rfl rfl rfl rfl rfl rfl ?_
      | refine WpOps.store rfl rfl rfl rfl rfl rfl rfl rfl rfl rfl ?_
      | refine WpOps.skip rfl rfl rfl ?_
      | refine WpOps.build _ rfl rfl rfl rfl rfl ?_
      | refine WpOps.sh _ rfl rfl rfl rfl rfl ?_
      | refine WpOps.gsplit _ rfl rfl rfl (fun h => ?_) (fun h => ?_)
      | refine WpA.block ?_
      | refine WpA.exit ?_
      | refine WpOps.nil ?_
      | refine WpA.ret ?_
      | refine WpA.skip ?_
      | refine WpA.condT rfl ?_
      | refine WpA.condF rfl ?_
      | refine WpA.cond _ rfl (fun h => ?_) (fun h => ?_)
      | refine WpA.draw (by kernel_rfl) ?_
      | refine LexA.op _ rfl rfl rfl rfl rfl ?_
      | refine LexA.skip rfl rfl rfl ?_
      | refine LexA.build _ rfl rfl rfl rfl rfl ?_
      | refine LexA.sh _ rfl rfl rfl rfl rfl ?_
      | refine LexA.gsplit _ rfl rfl rfl (fun h => ?_) (fun h => ?_)
      | refine LexA.nil ?_
    · exact fin none hn rfl rfl rfl
    all_goals (simp at h)
  | tg :: c :: r, hb =>
    have hl2 : decide ((((tg :: c :: r).map byteRow).length : Int) < 2) = false := by simp; omega
    have hc8 := c.toNat_lt
    have hwc : IntKind.i64.wrap (c.toNat : Int) = (c.toNat : Int) := wrap64 (by omega) (by omega)
    have e0 : ((tg :: c :: r).map byteRow)[(0 : Int).toNat]? = some (byteRow tg) := rfl
    have e1 : ((tg :: c :: r).map byteRow)[(1 : Int).toNat]? = some (byteRow c) := rfl
    simp only [List.length_cons] at hb
    repeat' first
      | refine WpA.seq ?_
      | refine WpA.region ?_
      | refine WpOps.op _ rfl rfl rfl rfl rfl ?_
      | refine WpOps.box _ rfl rfl rfl rfl rfl ?_
      | refine WpOps.alloc _ rfl rfl rfl rfl rfl rfl ?_
      | refine WpOps.store rfl rfl rfl rfl rfl rfl rfl rfl rfl rfl ?_
      | refine WpOps.skip rfl rfl rfl ?_
      | refine WpOps.build _ rfl rfl rfl rfl rfl ?_
      | refine WpOps.sh _ rfl rfl rfl rfl rfl ?_
      | (refine WpOps.elem (byteRow tg) rfl rfl rfl rfl rfl rfl rfl rfl rfl (by decide) e0 ?_)
      | refine WpOps.gsplit _ rfl rfl rfl (fun h => ?_) (fun h => ?_)
      | refine WpA.block ?_
      | refine WpA.exit ?_
      | refine WpOps.nil ?_
      | refine WpA.ret ?_
      | refine WpA.skip ?_
      | refine WpA.condT rfl ?_
      | refine WpA.condF rfl ?_
      | refine WpA.draw (by kernel_rfl) ?_
      | refine LexA.op _ rfl rfl rfl rfl rfl ?_
      | refine LexA.skip rfl rfl rfl ?_
      | refine LexA.build _ rfl rfl rfl rfl rfl ?_
      | refine LexA.sh _ rfl rfl rfl rfl rfl ?_
      | refine LexA.gsplit _ rfl rfl rfl (fun h => ?_) (fun h => ?_)
      | refine LexA.nil ?_
    refine WpA.cond _ rfl (fun h => ?_) (fun h => ?_)
    · have ht : tg = 0 := by
        have h' : (((tg.toNat : Nat) : Int) == 0) = true := h
        have : (tg.toNat : Int) = 0 := by simpa using h'
        exact UInt8.toNat_inj.1 (by show tg.toNat = 0; omega)
      have hn : headP (tg :: c :: r) = none := by rw [headP, if_pos ht]
      repeat' first
        | refine WpA.seq ?_
        | refine WpA.region ?_
        | refine WpOps.op _ rfl rfl rfl rfl rfl ?_
        | refine WpOps.box _ rfl rfl rfl rfl rfl ?_
        | refine WpOps.alloc _ rfl rfl rfl rfl rfl rfl ?_
        | refine WpOps.store rfl rfl rfl rfl rfl rfl rfl rfl rfl rfl ?_
        | refine WpOps.skip rfl rfl rfl ?_
        | refine WpOps.build _ rfl rfl rfl rfl rfl ?_
        | refine WpOps.sh _ rfl rfl rfl rfl rfl ?_
        | refine WpOps.gsplit _ rfl rfl rfl (fun h => ?_) (fun h => ?_)
        | refine WpA.block ?_
        | refine WpA.exit ?_
        | refine WpOps.nil ?_
        | refine WpA.ret ?_
        | refine WpA.skip ?_
        | refine WpA.condT rfl ?_
        | refine WpA.condF rfl ?_
        | refine WpA.cond _ rfl (fun h => ?_) (fun h => ?_)
        | refine WpA.draw (by kernel_rfl) ?_
        | refine LexA.op _ rfl rfl rfl rfl rfl ?_
        | refine LexA.skip rfl rfl rfl ?_
        | refine LexA.build _ rfl rfl rfl rfl rfl ?_
        | refine LexA.sh _ rfl rfl rfl rfl rfl ?_
        | refine LexA.gsplit _ rfl rfl rfl (fun h => ?_) (fun h => ?_)
        | refine LexA.nil ?_
      exact fin none hn rfl rfl rfl
    have ht : ¬ tg = 0 := by
      have h' : (((tg.toNat : Nat) : Int) == 0) = false := h
      intro e; subst e; cases h'
    have hh : headP (tg :: c :: r) = match lenOf (c :: r) with
        | none => none
        | some (n, r2) => some (tg, 1 + ((c :: r).length - r2.length), n) := by rw [headP, if_neg ht]
    rw [lenOf_cons] at hh
    repeat' first
      | refine WpA.seq ?_
      | refine WpA.region ?_
      | refine WpOps.op _ rfl rfl rfl rfl rfl ?_
      | refine WpOps.box _ rfl rfl rfl rfl rfl ?_
      | refine WpOps.alloc _ rfl rfl rfl rfl rfl rfl ?_
      | refine WpOps.store rfl rfl rfl rfl rfl rfl rfl rfl rfl rfl ?_
      | refine WpOps.skip rfl rfl rfl ?_
      | refine WpOps.build _ rfl rfl rfl rfl rfl ?_
      | refine WpOps.sh _ rfl rfl rfl rfl rfl ?_
      | (refine WpOps.elem (byteRow c) rfl rfl rfl rfl rfl rfl rfl rfl rfl (by decide) e1 ?_)
      | refine WpOps.gsplit _ rfl rfl rfl (fun h => ?_) (fun h => ?_)
      | refine WpA.block ?_
      | refine WpA.exit ?_
      | refine WpOps.nil ?_
      | refine WpA.ret ?_
      | refine WpA.skip ?_
      | refine WpA.condT rfl ?_
      | refine WpA.condF rfl ?_
      | refine WpA.draw (by kernel_rfl) ?_
      | refine LexA.op _ rfl rfl rfl rfl rfl ?_
      | refine LexA.skip rfl rfl rfl ?_
      | refine LexA.build _ rfl rfl rfl rfl rfl ?_
      | refine LexA.sh _ rfl rfl rfl rfl rfl ?_
      | refine LexA.gsplit _ rfl rfl rfl (fun h => ?_) (fun h => ?_)
      | refine LexA.nil ?_
    refine WpA.cond _ rfl (fun h => ?_) (fun h => ?_)
    · have h1 : c.toNat < 128 := by
        have h' : decide (((c.toNat : Nat) : Int) < 128) = true := h
        have := of_decide_eq_true h'
        omega
      have hn : headP (tg :: c :: r) = some (tg, 2, c.toNat) := by
        rw [hh, if_pos h1]
        simp only [List.length_cons]
        congr 3
        omega
      repeat' first
        | refine WpA.seq ?_
        | refine WpA.region ?_
        | refine WpOps.op _ rfl rfl rfl rfl rfl ?_
        | refine WpOps.box _ rfl rfl rfl rfl rfl ?_
        | refine WpOps.alloc _ rfl rfl rfl rfl rfl rfl ?_
        | refine WpOps.store rfl rfl rfl rfl rfl rfl rfl rfl rfl rfl ?_
        | refine WpOps.skip rfl rfl rfl ?_
        | refine WpOps.build _ rfl rfl rfl rfl rfl ?_
        | refine WpOps.sh _ rfl rfl rfl rfl rfl ?_
        | (refine LexA.elem (byteRow tg) rfl rfl rfl rfl rfl rfl rfl rfl rfl (by decide) e0 ?_)
        | (refine LexA.elem (byteRow c) rfl rfl rfl rfl rfl rfl rfl rfl rfl (by decide) e1 ?_)
        | refine WpOps.gsplit _ rfl rfl rfl (fun h => ?_) (fun h => ?_)
        | refine WpA.block ?_
        | refine WpA.exit ?_
        | refine WpOps.nil ?_
        | refine WpA.ret ?_
        | refine WpA.skip ?_
        | refine WpA.condT rfl ?_
        | refine WpA.condF rfl ?_
        | refine WpA.cond _ rfl (fun h => ?_) (fun h => ?_)
        | refine WpA.draw (by kernel_rfl) ?_
        | refine LexA.op _ rfl rfl rfl rfl rfl ?_
        | refine LexA.skip rfl rfl rfl ?_
        | refine LexA.build _ rfl rfl rfl rfl rfl ?_
        | refine LexA.sh _ rfl rfl rfl rfl rfl ?_
        | refine LexA.gsplit _ rfl rfl rfl (fun h => ?_) (fun h => ?_)
        | refine LexA.nil ?_
      refine fin _ hn rfl rfl ?_
      show AV.tup [u8 tg, .int .i64 2, .int .i64 (IntKind.i64.wrap (c.toNat : Int)), .bool true] = _
      rw [hwc]; rfl
    have h1 : ¬ c.toNat < 128 := by
      have h' : decide (((c.toNat : Nat) : Int) < 128) = false := h
      have := of_decide_eq_false h'
      omega
    rw [if_neg h1] at hh
    obtain ⟨kk, hkk⟩ : ∃ kk, kk = c.toNat - 128 := ⟨_, rfl⟩
    have hwk : IntKind.i64.wrap (IntKind.i64.wrap (c.toNat : Int) - 128) = (kk : Int) := by rw [hwc, wrap64 (by omega) (by omega)]; omega
    rw [← hkk] at hh
    have hlen : ((tg :: c :: r).map byteRow).length = r.length + 2 := by simp
    by_cases hA : 129 ≤ c.toNat ∧ c.toNat ≤ 131 ∧ kk ≤ r.length
    · obtain ⟨q, hq⟩ : ∃ q, q = r.take kk := ⟨_, rfl⟩
      have hql : q.length = kk := by rw [hq, List.length_take]; omega
      rw [← hq] at hh
      have d1 : decide (IntKind.i64.wrap (IntKind.i64.wrap (c.toNat : Int) - 128) < 1) = false := by rw [hwk]; simp; omega
      have d2 : decide (IntKind.i64.wrap (IntKind.i64.wrap (c.toNat : Int) - 128) > 3) = false := by rw [hwk]; simp; omega
      have d3 : decide ((((tg :: c :: r).map byteRow).length : Int) < IntKind.i64.wrap (2 + IntKind.i64.wrap (IntKind.i64.wrap (c.toNat : Int) - 128))) = false := by
        rw [hwk, hlen, wrap64 (by omega) (by omega)]; simp; omega
      repeat' first
        | refine WpA.seq ?_
        | refine WpA.region ?_
        | refine WpOps.op _ rfl rfl rfl rfl rfl ?_
        | refine WpOps.box _ rfl rfl rfl rfl rfl ?_
        | refine WpOps.alloc _ rfl rfl rfl rfl rfl rfl ?_
        | refine WpOps.store rfl rfl rfl rfl rfl rfl rfl rfl rfl rfl ?_
        | refine WpOps.skip rfl rfl rfl ?_
        | refine WpOps.build _ rfl rfl rfl rfl rfl ?_
        | refine WpOps.sh _ rfl rfl rfl rfl rfl ?_
        | (refine WpOps.elem (byteRow c) rfl rfl rfl rfl rfl rfl rfl rfl rfl (by decide) e1 ?_)
        | refine WpOps.gsplit _ rfl rfl rfl (fun h => ?_) (fun h => ?_)
        | refine WpA.block ?_
        | refine WpA.exit ?_
        | refine WpOps.nil ?_
        | refine WpA.ret ?_
        | refine WpA.skip ?_
        | refine WpA.condT rfl ?_
        | refine WpA.condF rfl ?_
        | refine WpA.draw (by kernel_rfl) ?_
        | refine LexA.op _ rfl rfl rfl rfl rfl ?_
        | refine LexA.skip rfl rfl rfl ?_
        | refine LexA.build _ rfl rfl rfl rfl rfl ?_
        | refine LexA.sh _ rfl rfl rfl rfl rfl ?_
        | refine LexA.gsplit _ rfl rfl rfl (fun h => ?_) (fun h => ?_)
        | refine LexA.nil ?_
      · exfalso
        have h' := h.symm.trans d1
        cases h'
      · exfalso
        have h' := h.symm.trans d2
        cases h'
      refine WpA.cond _ rfl (fun h => ?_) (fun h => ?_)
      · exfalso
        have h' := Eq.trans (show decide ((((tg :: c :: r).map byteRow).length : Int) < IntKind.i64.wrap (2 + IntKind.i64.wrap (IntKind.i64.wrap (c.toNat : Int) - 128))) = true from h).symm d3
        cases h'
      repeat' first
        | refine WpA.seq ?_
        | refine WpA.region ?_
        | refine WpOps.op _ rfl rfl rfl rfl rfl ?_
        | refine WpOps.box _ rfl rfl rfl rfl rfl ?_
        | refine WpOps.alloc _ rfl rfl rfl rfl rfl rfl ?_
        | refine WpOps.store rfl rfl rfl rfl rfl rfl rfl rfl rfl rfl ?_
        | refine WpOps.skip rfl rfl rfl ?_
        | refine WpOps.build _ rfl rfl rfl rfl rfl ?_
        | refine WpOps.sh _ rfl rfl rfl rfl rfl ?_
        | refine WpOps.gsplit _ rfl rfl rfl (fun h => ?_) (fun h => ?_)
        | refine WpA.block ?_
        | refine WpA.exit ?_
        | refine WpOps.nil ?_
        | refine WpA.ret ?_
        | refine WpA.skip ?_
        | refine WpA.condT rfl ?_
        | refine WpA.condF rfl ?_
        | refine WpA.draw (by kernel_rfl) ?_
        | refine LexA.op _ rfl rfl rfl rfl rfl ?_
        | refine LexA.skip rfl rfl rfl ?_
        | refine LexA.build _ rfl rfl rfl rfl rfl ?_
        | refine LexA.sh _ rfl rfl rfl rfl rfl ?_
        | refine LexA.gsplit _ rfl rfl rfl (fun h => ?_) (fun h => ?_)
        | refine LexA.nil ?_
      refine WpA.loopFor kk (fun i => [(0, .sl tg0 1 ((tg :: c :: r).map byteRow)), (6, .int .i64 (IntKind.i64.wrap (IntKind.i64.wrap (c.toNat : Int) - 128))), (7, .int .i64 (beVal 0 (q.take i) : Nat)), (8, .int .i64 (i : Nat))])
        (fun _ => H ++ []) (fun _ => True) trivial ⟨rfl, rfl, rfl, rfl, trivial⟩ rfl (fun i hi _ => ?_) (fun _ => ?_)
      · have hi' : i < q.length := by omega
        have hir : i < r.length := by omega
        have hqr : q[i] = r[i] := by subst hq; rw [List.getElem_take]
        have hw2 : IntKind.i64.wrap (2 + (i : Int)) = ((i + 2 : Nat) : Int) := by rw [wrap64 (by omega) (by omega)]; omega
        have hix : 0 ≤ IntKind.i64.wrap (2 + (i : Int)) := by rw [hw2]; omega
        have hc : ((tg :: c :: r).map byteRow)[(IntKind.i64.wrap (2 + (i : Int))).toNat]? = some (byteRow q[i]) := by
          rw [hw2, Int.toNat_natCast, List.map_cons, List.map_cons, List.getElem?_cons_succ, List.getElem?_cons_succ, List.getElem?_map, List.getElem?_eq_getElem hir, hqr]; rfl
        have hbb := (q[i]).toNat_lt
        have hv : beVal 0 (q.take i) < 65536 := by
          have h1 := beVal_lt (q.take i) 0 0 (by decide)
          have h2 : 2 ^ (0 + 8 * (q.take i).length) ≤ 2 ^ 16 := Nat.pow_le_pow_right (by decide) (by rw [List.length_take]; omega)
          exact Nat.lt_of_lt_of_le h1 h2
        have hlt : decide (((i : Nat) : Int) < IntKind.i64.wrap (IntKind.i64.wrap (c.toNat : Int) - 128)) = true := by rw [hwk]; simp; omega
        repeat' first
          | refine WpA.seq ?_
          | refine WpA.region ?_
          | refine WpOps.op _ rfl rfl rfl rfl rfl ?_
          | refine WpOps.box _ rfl rfl rfl rfl rfl ?_
          | refine WpOps.alloc _ rfl rfl rfl rfl rfl rfl ?_
          | refine WpOps.store rfl rfl rfl rfl rfl rfl rfl rfl rfl rfl ?_
          | refine WpOps.skip rfl rfl rfl ?_
          | refine WpOps.build _ rfl rfl rfl rfl rfl ?_
          | refine WpOps.sh _ rfl rfl rfl rfl rfl ?_
          | refine WpOps.gsplit _ rfl rfl rfl (fun h => ?_) (fun h => ?_)
          | refine WpA.block ?_
          | refine WpA.exit ?_
          | refine WpOps.nil ?_
          | refine WpA.ret ?_
          | refine WpA.skip ?_
          | refine WpA.condT rfl ?_
          | refine WpA.condF rfl ?_
          | refine WpA.draw (by kernel_rfl) ?_
          | refine LexA.op _ rfl rfl rfl rfl rfl ?_
          | refine LexA.skip rfl rfl rfl ?_
          | refine LexA.build _ rfl rfl rfl rfl rfl ?_
          | refine LexA.sh _ rfl rfl rfl rfl rfl ?_
          | refine LexA.gsplit _ rfl rfl rfl (fun h => ?_) (fun h => ?_)
          | refine LexA.nil ?_
        refine WpA.cond true (congrArg AV.bool hlt) (fun h => ?_) (fun h => by cases h)
        repeat' first
          | refine WpA.seq ?_
          | refine WpA.region ?_
          | refine WpOps.op _ rfl rfl rfl rfl rfl ?_
          | refine WpOps.box _ rfl rfl rfl rfl rfl ?_
          | refine WpOps.alloc _ rfl rfl rfl rfl rfl rfl ?_
          | refine WpOps.store rfl rfl rfl rfl rfl rfl rfl rfl rfl rfl ?_
          | refine WpOps.skip rfl rfl rfl ?_
          | refine WpOps.build _ rfl rfl rfl rfl rfl ?_
          | refine WpOps.sh _ rfl rfl rfl rfl rfl ?_
          | refine WpOps.elem (byteRow q[i]) rfl rfl rfl rfl rfl rfl rfl rfl rfl hix hc ?_
          | refine WpOps.gsplit _ rfl rfl rfl (fun h => ?_) (fun h => ?_)
          | refine WpA.block ?_
          | refine WpA.exit ?_
          | refine WpOps.nil ?_
          | refine WpA.ret ?_
          | refine WpA.skip ?_
          | refine WpA.condT rfl ?_
          | refine WpA.condF rfl ?_
          | refine WpA.cond _ rfl (fun h => ?_) (fun h => ?_)
          | refine WpA.draw (by kernel_rfl) ?_
          | refine LexA.op _ rfl rfl rfl rfl rfl ?_
          | refine LexA.skip rfl rfl rfl ?_
          | refine LexA.build _ rfl rfl rfl rfl rfl ?_
          | refine LexA.sh _ rfl rfl rfl rfl rfl ?_
          | refine LexA.gsplit _ rfl rfl rfl (fun h => ?_) (fun h => ?_)
          | refine LexA.nil ?_
        refine ⟨trivial, ⟨rfl, rfl, congrArg (AV.int .i64) ?_, congrArg (AV.int .i64) (wrap64 (by omega) (by omega)), trivial⟩, rfl⟩
        show IntKind.i64.wrap (IntKind.i64.wrap (256 * ((beVal 0 (q.take i) : Nat) : Int)) + IntKind.i64.wrap ((q[i]).toNat : Int)) = _
        rw [wrap64 (x := ((q[i]).toNat : Int)) (by omega) (by omega), wrap64 (x := 256 * _) (by omega) (by omega), wrap64 (by omega) (by omega), beVal_take hi']
        omega
      · have hqt : q.take kk = q := List.take_of_length_le (by omega)
        have hv : beVal 0 q < 16777216 := by
          have h1 := beVal_lt q 0 0 (by decide)
          have h2 : 2 ^ (0 + 8 * q.length) ≤ 2 ^ 24 := Nat.pow_le_pow_right (by decide) (by omega)
          exact Nat.lt_of_lt_of_le h1 h2
        have hlt : decide (((kk : Nat) : Int) < IntKind.i64.wrap (IntKind.i64.wrap (c.toNat : Int) - 128)) = false := by rw [hwk]; simp
        have hL : ∀ H, CallsA E 52 [.int .i64 ((beVal 0 (q.take kk) : Nat) : Int)] H (Is H (.sl .no 1 ((rLen (beVal 0 q)).map byteRow))) := fun H => by rw [hqt]; exact rLength_A _ H (by omega)
        have hll : ((rLen (beVal 0 q)).map byteRow).length = wide (beVal 0 q) := by rw [List.length_map, rLen_len hv]
        repeat' first
          | refine WpA.seq ?_
          | refine WpA.region ?_
          | refine WpOps.op _ rfl rfl rfl rfl rfl ?_
          | refine WpOps.box _ rfl rfl rfl rfl rfl ?_
          | refine WpOps.alloc _ rfl rfl rfl rfl rfl rfl ?_
          | refine WpOps.store rfl rfl rfl rfl rfl rfl rfl rfl rfl rfl ?_
          | refine WpOps.skip rfl rfl rfl ?_
          | refine WpOps.build _ rfl rfl rfl rfl rfl ?_
          | refine WpOps.sh _ rfl rfl rfl rfl rfl ?_
          | refine WpOps.gsplit _ rfl rfl rfl (fun h => ?_) (fun h => ?_)
          | refine WpA.block ?_
          | refine WpA.exit ?_
          | refine WpOps.nil ?_
          | refine WpA.ret ?_
          | refine WpA.skip ?_
          | refine WpA.condT rfl ?_
          | refine WpA.condF rfl ?_
          | refine WpA.draw (by kernel_rfl) ?_
          | refine LexA.op _ rfl rfl rfl rfl rfl ?_
          | refine LexA.skip rfl rfl rfl ?_
          | refine LexA.build _ rfl rfl rfl rfl rfl ?_
          | refine LexA.sh _ rfl rfl rfl rfl rfl ?_
          | refine LexA.gsplit _ rfl rfl rfl (fun h => ?_) (fun h => ?_)
          | refine LexA.nil ?_
        refine WpA.cond false (congrArg AV.bool hlt) (fun h => by cases h) (fun h => ?_)
        clear h
        repeat' first
          | refine WpA.seq ?_
          | refine WpA.region ?_
          | refine WpOps.op _ rfl rfl rfl rfl rfl ?_
          | refine WpOps.box _ rfl rfl rfl rfl rfl ?_
          | refine WpOps.alloc _ rfl rfl rfl rfl rfl rfl ?_
          | refine WpOps.store rfl rfl rfl rfl rfl rfl rfl rfl rfl rfl ?_
          | refine WpOps.skip rfl rfl rfl ?_
          | refine WpOps.build _ rfl rfl rfl rfl rfl ?_
          | refine WpOps.sh _ rfl rfl rfl rfl rfl ?_
          | (refine WpOps.call rfl rfl rfl rfl rfl (by exact hL _) ?_; rintro _ _ ⟨rfl, rfl⟩)
          | (refine WpOps.elem (byteRow tg) rfl rfl rfl rfl rfl rfl rfl rfl rfl (by decide) e0 ?_)
          | refine WpOps.gsplit _ rfl rfl rfl (fun h => ?_) (fun h => ?_)
          | refine WpA.block ?_
          | refine WpA.exit ?_
          | refine WpOps.nil ?_
          | refine WpA.ret ?_
          | refine WpA.skip ?_
          | refine WpA.condT rfl ?_
          | refine WpA.condF rfl ?_
          | refine WpA.cond _ rfl (fun h => ?_) (fun h => ?_)
          | refine WpA.draw (by kernel_rfl) ?_
          | refine LexA.op _ rfl rfl rfl rfl rfl ?_
          | refine LexA.skip rfl rfl rfl ?_
          | refine LexA.build _ rfl rfl rfl rfl rfl ?_
          | refine LexA.sh _ rfl rfl rfl rfl rfl ?_
          | refine LexA.call rfl rfl rfl rfl rfl (by exact hL _) ?_
          | refine LexA.gsplit _ rfl rfl rfl (fun h => ?_) (fun h => ?_)
          | refine LexA.nil ?_
        · have h' : (((((rLen (beVal 0 q)).map byteRow).length : Nat) : Int) != IntKind.i64.wrap (1 + IntKind.i64.wrap (IntKind.i64.wrap (c.toNat : Int) - 128))) = true := h
          rw [hll, hwk, wrap64 (by omega) (by omega)] at h'
          have hn : headP (tg :: c :: r) = none := by
            rw [hh, if_neg]
            rintro ⟨_, _, _, h5⟩
            simp only [bne_iff_ne, ne_eq] at h'
            omega
          exact fin none hn rfl rfl rfl
        · have h' : (((((rLen (beVal 0 q)).map byteRow).length : Nat) : Int) != IntKind.i64.wrap (1 + IntKind.i64.wrap (IntKind.i64.wrap (c.toNat : Int) - 128))) = false := h
          rw [hll, hwk, wrap64 (by omega) (by omega)] at h'
          have hn : headP (tg :: c :: r) = some (tg, kk + 2, beVal 0 q) := by
            rw [hh, if_pos]
            · simp only [List.length_cons, List.length_drop]
              congr 3
              omega
            · simp only [bne_eq_false_iff_eq] at h'
              exact ⟨hA.1, hA.2.1, hA.2.2, by omega⟩
          refine fin _ hn rfl rfl ?_
          show AV.tup [u8 tg, .int .i64 (IntKind.i64.wrap (2 + IntKind.i64.wrap (IntKind.i64.wrap (c.toNat : Int) - 128))), .int .i64 ((beVal 0 (q.take kk) : Nat) : Int), .bool true] = _
          rw [hwk, hqt, wrap64 (by omega) (by omega)]
          show _ = AV.tup [u8 tg, .int .i64 ((kk + 2 : Nat) : Int), .int .i64 (beVal 0 q : Nat), .bool true]
          congr 4
          omega
    · have hn : headP (tg :: c :: r) = none := by rw [hh, if_neg (fun h => hA ⟨h.1, h.2.1, h.2.2.1⟩)]
      repeat' first
        | refine WpA.seq ?_
        | refine WpA.region ?_
        | refine WpOps.op _ rfl rfl rfl rfl rfl ?_
        | refine WpOps.box _ rfl rfl rfl rfl rfl ?_
        | refine WpOps.alloc _ rfl rfl rfl rfl rfl rfl ?_
        | refine WpOps.store rfl rfl rfl rfl rfl rfl rfl rfl rfl rfl ?_
        | refine WpOps.skip rfl rfl rfl ?_
        | refine WpOps.build _ rfl rfl rfl rfl rfl ?_
        | refine WpOps.sh _ rfl rfl rfl rfl rfl ?_
        | (refine WpOps.elem (byteRow c) rfl rfl rfl rfl rfl rfl rfl rfl rfl (by decide) e1 ?_)
        | refine WpOps.gsplit _ rfl rfl rfl (fun h => ?_) (fun h => ?_)
        | refine WpA.block ?_
        | refine WpA.exit ?_
        | refine WpOps.nil ?_
        | refine WpA.ret ?_
        | refine WpA.skip ?_
        | refine WpA.condT rfl ?_
        | refine WpA.condF rfl ?_
        | refine WpA.cond _ rfl (fun h => ?_) (fun h => ?_)
        | refine WpA.draw (by kernel_rfl) ?_
        | refine LexA.op _ rfl rfl rfl rfl rfl ?_
        | refine LexA.skip rfl rfl rfl ?_
        | refine LexA.build _ rfl rfl rfl rfl rfl ?_
        | refine LexA.sh _ rfl rfl rfl rfl rfl ?_
        | refine LexA.gsplit _ rfl rfl rfl (fun h => ?_) (fun h => ?_)
        | refine LexA.nil ?_
      · exact fin none hn rfl rfl rfl
      · exact fin none hn rfl rfl rfl
      · exact fin none hn rfl rfl rfl
      all_goals
        exfalso
        have hw2 : IntKind.i64.wrap (2 + (kk : Int)) = 2 + (kk : Int) := wrap64 (by omega) (by omega)
        simp only [hwk, hw2, hlen, cond_true, cond_false, decide_eq_true_eq, decide_eq_false_iff_not] at *
        omega
end Go.Gp.Try

/- The octet codec: Decode. -/
namespace Go.Gp.Try
open Go.Proofs
set_option linter.unusedVariables false
set_option linter.unusedSimpArgs false
set_option maxHeartbeats 4000000
set_option maxRecDepth 100000

def zeroOct : Oct := .mk 0 [] []
/-- The value that bytes encode, and the error. -/
def decP (b : List UInt8) : Oct × Nat :=
  if 65536 < b.length then (zeroOct, 4) else match parse 12 b with
    | some (o, []) => if checkP o = 0 then (o, 0) else (zeroOct, 12)
    | _ => (zeroOct, 12)

abbrev zeroC : List AV := [.int .u8 0, .sl .full 0 [], .sl .full 0 []]

theorem Dec1_none (m p q : Nat) (H : List AObj) : DefA E 57 [.ptr m p 0, .ptr m q 0] H none (fun r H' => r = false ∧ H' = H) := by
  refine DefA.of_bare (DefA.enter (id := 0) rfl Try.func57 rfl rfl rfl 17 Try.ntmps57 (Nat.le_of_ble_eq_true rfl) rfl rfl rfl rfl ?_)
  repeat' first
    | refine WpA.seq ?_
    | refine WpA.region ?_
    | refine WpOps.op _ rfl rfl rfl rfl rfl ?_
    | refine WpOps.box _ rfl rfl rfl rfl rfl ?_
    | refine WpOps.alloc _ rfl rfl rfl rfl rfl rfl ?_
    | refine WpOps.store rfl rfl rfl rfl rfl rfl rfl rfl rfl rfl ?_
    | refine WpOps.skip rfl rfl rfl ?_
    | refine WpOps.build _ rfl rfl rfl rfl rfl ?_
    | refine WpOps.sh _ rfl rfl rfl rfl rfl ?_
    | (refine WpOps.p1 rfl rfl rfl (.ifaceNil true rfl rfl rfl rfl) ?_)
    | refine WpOps.gsplit _ rfl rfl rfl (fun h => ?_) (fun h => ?_)
    | refine WpA.block ?_
    | refine WpA.exit ?_
    | refine WpOps.nil ?_
    | refine WpA.ret ?_
    | refine WpA.skip ?_
    | refine WpA.condT rfl ?_
    | refine WpA.condF rfl ?_
    | refine WpA.cond _ rfl (fun h => ?_) (fun h => ?_)
    | refine WpA.draw (by kernel_rfl) ?_
    | refine LexA.op _ rfl rfl rfl rfl rfl ?_
    | refine LexA.skip rfl rfl rfl ?_
    | refine LexA.build _ rfl rfl rfl rfl rfl ?_
    | refine LexA.sh _ rfl rfl rfl rfl rfl ?_
    | refine LexA.gsplit _ rfl rfl rfl (fun h => ?_) (fun h => ?_)
    | refine LexA.nil ?_
  exact ⟨H, [], rfl, rfl, TrOk.refl H, rfl, rfl⟩

theorem Dec1_some (m p q : Nat) (H : List AObj) (cs : List AV) (x : AV) (hc : cs.length = 3) (h1 : H[m + p]? = some (.cells cs)) (h2 : H[m + q]? = some (.cells [x])) (hpq : p ≠ q) :
    DefA E 57 [.ptr m p 0, .ptr m q 0] H (some errV) (fun r H' => r = true ∧ H' = (H.set (m + p) (.cells zeroC)).set (m + q) (.cells [.int .i64 12])) := by
  have h2' : ∀ y, (H.set (m + p) y)[m + q]? = some (.cells [x]) := fun y => by rw [List.getElem?_set_ne (by omega)]; exact h2
  have hle : Nat.ble (0 + 3) cs.length = true := by rw [hc]; rfl
  refine DefA.of_bare (DefA.enter (id := 0) rfl Try.func57 rfl rfl rfl 17 Try.ntmps57 (Nat.le_of_ble_eq_true rfl) rfl rfl rfl rfl ?_)
  repeat' first
    | refine WpA.seq ?_
    | refine WpA.region ?_
    | refine WpOps.op _ rfl rfl rfl rfl rfl ?_
    | refine WpOps.box _ rfl rfl rfl rfl rfl ?_
    | refine WpOps.alloc _ rfl rfl rfl rfl rfl rfl ?_
    | refine WpOps.store rfl rfl rfl rfl rfl rfl rfl rfl rfl rfl ?_
    | refine WpOps.skip rfl rfl rfl ?_
    | refine WpOps.build _ rfl rfl rfl rfl rfl ?_
    | refine WpOps.sh _ rfl rfl rfl rfl rfl ?_
    | (refine WpOps.p1 rfl rfl rfl (.ifaceNil true rfl rfl rfl rfl) ?_)
    | (refine WpOps.assertOk _ rfl rfl rfl rfl rfl (fun h => by cases h) rfl ?_)
    | (refine WpOps.storeOut rfl rfl rfl rfl h1 rfl rfl rfl rfl hle ?_)
    | (refine WpOps.storeOut rfl rfl rfl rfl (h2' _) rfl rfl rfl rfl rfl ?_)
    | refine WpOps.gsplit _ rfl rfl rfl (fun h => ?_) (fun h => ?_)
    | refine WpA.block ?_
    | refine WpA.exit ?_
    | refine WpOps.nil ?_
    | refine WpA.ret ?_
    | refine WpA.skip ?_
    | refine WpA.condT rfl ?_
    | refine WpA.condF rfl ?_
    | refine WpA.cond _ rfl (fun h => ?_) (fun h => ?_)
    | refine WpA.draw (by kernel_rfl) ?_
    | refine LexA.op _ rfl rfl rfl rfl rfl ?_
    | refine LexA.skip rfl rfl rfl ?_
    | refine LexA.build _ rfl rfl rfl rfl rfl ?_
    | refine LexA.sh _ rfl rfl rfl rfl rfl ?_
    | refine LexA.gsplit _ rfl rfl rfl (fun h => ?_) (fun h => ?_)
    | refine LexA.nil ?_
  have e1 : putA cs 0 zeroC = zeroC := by
    show cs.take 0 ++ zeroC ++ cs.drop 3 = zeroC
    rw [List.drop_of_length_le (by omega)]; rfl
  refine ⟨(H.set (m + p) (.cells (putA cs 0 zeroC))).set (m + q) (.cells [.int .i64 12]), _, rfl, by simp, .set3 (TrOk.set1 (obd_cells ?_)) (obd_cells ?_), rfl, by rw [e1]⟩
  · rw [e1]
    intro a ha
    simp only [zeroC, List.mem_cons, List.not_mem_nil, or_false] at ha
    rcases ha with rfl | rfl | rfl
    · exact .int
    · exact .sl (fun _ _ e => by cases e) (by simp)
    · exact .sl (fun _ _ e => by cases e) (by simp)
  · intro a ha
    have := List.mem_singleton.1 ha
    subst this
    exact .int

theorem octDecode_A (b : List UInt8) (H : List AObj) (hb : b.length ≤ 1000000000000) :
    CallsA E 33 [.sl .no 1 (b.map byteRow)] H (Is H (.tup [.agg (decP b).1.cells, .int .i64 ((decP b).2 : Nat)])) := by
  have bd : ∀ (o : Oct) (e : Int), Bd H.length (.tup [.agg o.cells, .int .i64 e]) := fun o e => .tup fun x hx => by
    simp only [List.mem_cons, List.not_mem_nil, or_false] at hx
    rcases hx with rfl | rfl
    · exact Oct.bdA _ _
    · exact .int
  have hz : Sub (.agg zeroC) (.agg zeroOct.cells) := Sub.agg (vs := zeroOct.cells) ⟨Sub.refl _, Sub.empty, Sub.empty, trivial⟩
  refine CallsA.enterQ Try.func33 rfl rfl rfl Try.ntmps33 (Nat.le_of_ble_eq_true rfl) fun c hH ho => ?_
  refine WpQ.seq (post_ret rfl Try.ntmps33 hH ho) ?_
  repeat' first
    | refine WpA.seq ?_
    | refine WpA.region ?_
    | refine WpOps.op _ rfl rfl rfl rfl rfl ?_
    | refine WpOps.box _ rfl rfl rfl rfl rfl ?_
    | refine WpOps.alloc _ rfl rfl rfl rfl rfl rfl ?_
    | refine WpOps.store rfl rfl rfl rfl rfl rfl rfl rfl rfl rfl ?_
    | refine WpOps.skip rfl rfl rfl ?_
    | refine WpOps.build _ rfl rfl rfl rfl rfl ?_
    | refine WpOps.sh _ rfl rfl rfl rfl rfl ?_
    | refine WpOps.gsplit _ rfl rfl rfl (fun h => ?_) (fun h => ?_)
    | refine WpA.block ?_
    | refine WpA.exit ?_
    | refine WpOps.nil ?_
    | refine WpA.ret ?_
    | refine WpA.skip ?_
    | refine WpA.condT rfl ?_
    | refine WpA.condF rfl ?_
    | refine WpA.cond _ rfl (fun h => ?_) (fun h => ?_)
    | refine WpA.draw (by kernel_rfl) ?_
    | refine LexA.op _ rfl rfl rfl rfl rfl ?_
    | refine LexA.skip rfl rfl rfl ?_
    | refine LexA.build _ rfl rfl rfl rfl rfl ?_
    | refine LexA.sh _ rfl rfl rfl rfl rfl ?_
    | refine LexA.gsplit _ rfl rfl rfl (fun h => ?_) (fun h => ?_)
    | refine LexA.nil ?_
  refine WpQ.seq (post_ret rfl Try.ntmps33 hH ho) ?_
  repeat' first
    | refine WpA.seq ?_
    | refine WpA.region ?_
    | refine WpOps.op _ rfl rfl rfl rfl rfl ?_
    | refine WpOps.box _ rfl rfl rfl rfl rfl ?_
    | refine WpOps.alloc _ rfl rfl rfl rfl rfl rfl ?_
    | refine WpOps.store rfl rfl rfl rfl rfl rfl rfl rfl rfl rfl ?_
    | refine WpOps.skip rfl rfl rfl ?_
    | refine WpOps.build _ rfl rfl rfl rfl rfl ?_
    | refine WpOps.sh _ rfl rfl rfl rfl rfl ?_
    | refine WpOps.gsplit _ rfl rfl rfl (fun h => ?_) (fun h => ?_)
    | refine WpA.block ?_
    | refine WpA.exit ?_
    | refine WpOps.nil ?_
    | refine WpA.ret ?_
    | refine WpA.skip ?_
    | refine WpA.condT rfl ?_
    | refine WpA.condF rfl ?_
    | refine WpA.cond _ rfl (fun h => ?_) (fun h => ?_)
    | refine WpA.draw (by kernel_rfl) ?_
    | refine LexA.op _ rfl rfl rfl rfl rfl ?_
    | refine LexA.skip rfl rfl rfl ?_
    | refine LexA.build _ rfl rfl rfl rfl rfl ?_
    | refine LexA.sh _ rfl rfl rfl rfl rfl ?_
    | refine LexA.gsplit _ rfl rfl rfl (fun h => ?_) (fun h => ?_)
    | refine LexA.nil ?_
  · have hd : decP b = (zeroOct, 4) := by
      rw [decP, if_pos]
      simp at h; omega
    rw [hd]
    exact retK.sub (.inr rfl) rfl (TrOk.refl H) (L := _) rfl rfl (Sub.tup (vs := [.agg zeroOct.cells, .int .i64 4]) ⟨hz, Sub.refl _, trivial⟩) (bd _ _) ⟨rfl, rfl⟩
  · have hlb : b.length ≤ 65536 := by simp at h; omega
    have hd0 : decP b = match parse 12 b with
      | some (o, []) => if checkP o = 0 then (o, 0) else (zeroOct, 12)
      | _ => (zeroOct, 12) := by rw [decP, if_neg (by omega)]
    -- the end, where it has died
    have hdie : ∀ (t : Slots) (v x : List AV) (L : List AObj), v.length = 3 → look t 2 = .ptr H.length 0 0 → look t 3 = .ptr H.length 1 0 → x.length = 1 → decP b = (zeroOct, 12) →
        defK E [.cell 2 65, .cell 3 32] H (Is H (.tup [.agg (decP b).1.cells, .int .i64 ((decP b).2 : Nat)])) 57 [.ptr H.length 0 0, .ptr H.length 1 0] (.panic errV) t (H ++ (.cells v :: .cells x :: L)) := by
      intro t v x L hv ht2 ht3 hx hd
      obtain ⟨x0, rfl⟩ : ∃ x0, x = [x0] := by
        match x, hx with
        | [x0], _ => exact ⟨x0, rfl⟩
      refine (Dec1_some H.length 0 1 (H ++ (.cells v :: .cells [x0] :: L)) v x0 hv (app_get rfl rfl) (app_get rfl rfl) (by decide)).mono ?_
      rintro r H' ⟨rfl, rfl⟩
      refine ⟨rfl, ?_⟩
      rw [set_app, set_app, hd]
      refine retK.sub (.inr rfl) rfl (TrOk.refl H) (L := .cells zeroC :: .cells [.int .i64 12] :: L) («as» := [.agg zeroC, .int .i64 12]) ?_ ?_ (Sub.tup (vs := [.agg zeroOct.cells, .int .i64 12]) ⟨hz, Sub.refl _, trivial⟩) (bd _ _) ⟨rfl, rfl⟩
      · simp only [resL, resA, ht2, ht3]
        rfl
      · simp only [resN, ht2, ht3]
        rfl
    refine WpQ.region ?_
    refine WpQO.p1 rfl rfl rfl (.op rfl rfl) ?_
    refine WpQO.defer rfl Try.ntmps33 hH ho rfl rfl rfl rfl ⟨_, _, Try.func57, rfl, rfl⟩ ?_
    have hv : ∀ z1 z2, CallsA E 58 [.ptr H.length 2 0, .int .i64 1] (H ++ [z1, z2, rdr b]) (valR 12 b H.length 2 (H ++ [z1, z2, rdr b])) := fun z1 z2 => value_A 12 b H.length 2 _ (by decide) (app_get rfl rfl) (by omega)
    unfold valR at hv
    simp only [set_app] at hv
    cases hq : parse 12 b with
    | none =>
      rw [hq] at hv hd0
      repeat' first
        | refine WpA.seq ?_
        | refine WpA.region ?_
        | refine WpOps.op _ rfl rfl rfl rfl rfl ?_
        | refine WpOps.box _ rfl rfl rfl rfl rfl ?_
        | refine WpOps.alloc _ rfl rfl rfl rfl rfl rfl ?_
        | refine WpOps.store rfl rfl rfl rfl rfl rfl rfl rfl rfl rfl ?_
        | refine WpOps.skip rfl rfl rfl ?_
        | refine WpOps.build _ rfl rfl rfl rfl rfl ?_
        | refine WpOps.sh _ rfl rfl rfl rfl rfl ?_
        | (refine WpOps.callD rfl rfl rfl rfl rfl (by exact hv _ _) ?_; rintro _ ⟨x, rfl⟩)
        | refine WpOps.gsplit _ rfl rfl rfl (fun h => ?_) (fun h => ?_)
        | refine WpA.block ?_
        | refine WpA.exit ?_
        | refine WpOps.nil ?_
        | refine WpA.ret ?_
        | refine WpA.skip ?_
        | refine WpA.condT rfl ?_
        | refine WpA.condF rfl ?_
        | refine WpA.cond _ rfl (fun h => ?_) (fun h => ?_)
        | refine WpA.draw (by kernel_rfl) ?_
        | refine LexA.op _ rfl rfl rfl rfl rfl ?_
        | refine LexA.skip rfl rfl rfl ?_
        | refine LexA.build _ rfl rfl rfl rfl rfl ?_
        | refine LexA.sh _ rfl rfl rfl rfl rfl ?_
        | refine LexA.gsplit _ rfl rfl rfl (fun h => ?_) (fun h => ?_)
        | refine LexA.nil ?_
        | refine thenK.panic ?_
        | refine blockK.panic ?_
      exact hdie _ _ _ _ rfl rfl rfl rfl hd0
    | some x =>
      obtain ⟨o, rest⟩ := x
      rw [hq] at hv hd0
      dsimp only at hv hd0
      have hsz := parse_size hq
      have hCk := fun H => octCheck_A o H (by omega)
      repeat' first
        | refine WpA.seq ?_
        | refine WpA.region ?_
        | refine WpOps.op _ rfl rfl rfl rfl rfl ?_
        | refine WpOps.box _ rfl rfl rfl rfl rfl ?_
        | refine WpOps.alloc _ rfl rfl rfl rfl rfl rfl ?_
        | refine WpOps.store rfl rfl rfl rfl rfl rfl rfl rfl rfl rfl ?_
        | refine WpOps.skip rfl rfl rfl ?_
        | refine WpOps.build _ rfl rfl rfl rfl rfl ?_
        | refine WpOps.sh _ rfl rfl rfl rfl rfl ?_
        | (refine WpOps.call rfl rfl rfl rfl rfl (by exact hCk _) ?_; rintro _ _ ⟨rfl, rfl⟩)
        | (refine WpOps.call rfl rfl rfl rfl rfl (by exact hv _ _) ?_; rintro _ _ ⟨rfl, rfl⟩)
        | (refine must_op _ rfl rfl rfl rfl rfl rfl (fun h => ?_) (fun h => ?_))
        | refine WpOps.gsplit _ rfl rfl rfl (fun h => ?_) (fun h => ?_)
        | refine WpA.block ?_
        | refine WpA.exit ?_
        | refine WpOps.nil ?_
        | refine WpA.ret ?_
        | refine WpA.skip ?_
        | refine WpA.condT rfl ?_
        | refine WpA.condF rfl ?_
        | refine WpA.cond _ rfl (fun h => ?_) (fun h => ?_)
        | refine WpA.draw (by kernel_rfl) ?_
        | refine LexA.op _ rfl rfl rfl rfl rfl ?_
        | refine LexA.skip rfl rfl rfl ?_
        | refine LexA.build _ rfl rfl rfl rfl rfl ?_
        | refine LexA.sh _ rfl rfl rfl rfl rfl ?_
        | refine LexA.call rfl rfl rfl rfl rfl (by exact hCk _) ?_
        | refine LexA.gsplit _ rfl rfl rfl (fun h => ?_) (fun h => ?_)
        | refine LexA.nil ?_
        | refine thenK.panic ?_
        | refine blockK.panic ?_
      · rename_i _ h0
        have hr : rest = [] := by simpa using h0
        have hc : checkP o = 0 := by simpa using h
        subst hr
        have hd : decP b = (o, 0) := by rw [hd0]; show (if checkP o = 0 then (o, 0) else (zeroOct, 12)) = _; rw [if_pos hc]
        refine (Dec1_none H.length 0 1 _).mono ?_
        rintro r H' ⟨rfl, rfl⟩
        refine ⟨rfl, ?_⟩
        rw [hd]
        exact retK.ok rfl rfl rfl (bd _ _)
      · rename_i _ h0
        have hr : rest = [] := by simpa using h0
        have hc : ¬ checkP o = 0 := by simpa using h
        subst hr
        have hd : decP b = (zeroOct, 12) := by rw [hd0]; show (if checkP o = 0 then (o, 0) else (zeroOct, 12)) = _; rw [if_neg hc]
        exact hdie _ _ _ _ rfl rfl rfl rfl hd
      · cases h
      · rename_i _ h0
        have hr : rest ≠ [] := by simpa using h0
        have hd : decP b = (zeroOct, 12) := by
          rw [hd0]
          cases rest with
          | nil => exact absurd rfl hr
          | cons c r => rfl
        exact hdie _ _ _ _ rfl rfl rfl rfl hd
end Go.Gp.Try
