/- Part of a proof: GdW6 -/
import Derived.Test.YtmacdhglhafldaaDoorK25

/- The manifest's checks: Same, both. -/
namespace Go.Gp.Tryd
open Go.Proofs
set_option linter.unusedVariables false
set_option linter.unusedSimpArgs false
set_option maxHeartbeats 4000000

def heq (f g : File) : Bool := eqAL f.hash g.hash
def feq (f g : File) : Bool := f.name == g.name && (heq f g && true)

theorem hash_int (f : File) : ∀ a ∈ f.hash, ∃ v, a = .int .u8 v := fun a ha => by
  obtain ⟨i, _, rfl⟩ := List.mem_map.1 ha
  exact ⟨_, rfl⟩

theorem eqHash (f g : File) : EqS E (.inl 61) [.agg f.hash] [.agg g.hash] (heq f g) := .bytes rfl rfl rfl rfl (hash_int f) (hash_int g)
theorem eqFile (f g : File) : EqS E (.inl 63) [.agg f.row] [.agg g.row] (feq f g) :=
  .struct rfl (.cons rfl rfl rfl (.str rfl) (.cons rfl rfl rfl (eqHash f g) .nil))
def weq (a b a' b' : Int) : Bool := a == a' && (b == b' && true)
theorem eqWin (a b a' b' : Int) : EqS E (.inl 24) [.agg [.int .i64 a, .int .i64 b]] [.agg [.int .i64 a', .int .i64 b']] (weq a b a' b') :=
  .struct rfl (.cons rfl rfl rfl (.int rfl) (.cons rfl rfl rfl (.int rfl) .nil))

def eqFs : List File → List File → Bool
  | [], [] => true
  | f :: fs, g :: gs => feq f g && eqFs fs gs
  | _, _ => false

theorem eqFs_len : ∀ {fs gs : List File}, fs.length ≠ gs.length → eqFs fs gs = false
  | [], [], h => absurd rfl h
  | [], _ :: _, _ => rfl
  | _ :: _, [], _ => rfl
  | f :: fs, g :: gs, h => by
    have := eqFs_len (fs := fs) (gs := gs) (by simpa using h)
    simp [eqFs, this]

def same (m m' : Man) : Bool := m.v == m'.v && (weq m.a m.b m'.a m'.b && eqFs m.fs m'.fs)

theorem refSame_A (m m' : Man) (H : List AObj) (hb : m.fs.length ≤ 1000000000000000) : CallsA E 17 [m.av .no, m'.av .no] H (Is H (.bool (same m m'))) := by
  refine .enter Tryd.func17 rfl rfl rfl 45 Tryd.ntmps17 (Nat.le_of_ble_eq_true rfl) ?_
  repeat' first
    | refine WpA.seq ?_
    | refine WpA.region ?_
    | refine WpOps.op _ rfl rfl rfl rfl rfl ?_
    | refine WpOps.box _ rfl rfl rfl rfl rfl ?_
    | refine WpOps.alloc _ rfl rfl rfl rfl rfl rfl ?_
    | refine WpOps.store rfl rfl rfl rfl rfl rfl rfl rfl rfl rfl ?_
    | refine WpOps.skip rfl rfl rfl ?_
    | refine WpOps.build _ rfl rfl rfl rfl rfl ?_
    | refine WpOps.sh _ rfl rfl rfl rfl rfl ?_
    | refine WpOps.neA rfl rfl rfl rfl rfl rfl key24 (by exact eqWin _ _ _ _) ?_
    | refine WpOps.gsplit _ rfl rfl rfl (fun h => ?_) (fun h => ?_)
    | refine WpA.block ?_
    | refine WpA.exit ?_
    | refine WpOps.nil ?_
    | refine WpA.ret ?_
    | refine WpA.skip ?_
    | refine WpA.condT rfl ?_
    | refine WpA.condF rfl ?_
    | refine WpA.cond _ rfl (fun h => ?_) (fun h => ?_)
    | refine WpA.draw (by kernel_rfl) ?_
    | refine LexA.op _ rfl rfl rfl rfl rfl ?_
    | refine LexA.skip rfl rfl rfl ?_
    | refine LexA.build _ rfl rfl rfl rfl rfl ?_
    | refine LexA.sh _ rfl rfl rfl rfl rfl ?_
    | refine LexA.gsplit _ rfl rfl rfl (fun h => ?_) (fun h => ?_)
    | refine LexA.nil ?_
  · refine retK.ok rfl rfl (congrArg AV.bool ?_) .bool
    have h' : (m.v == m'.v) = false := by simpa [bne] using h
    rw [same, h']; rfl
  · refine retK.ok rfl rfl (congrArg AV.bool ?_) .bool
    have h' : (!weq m.a m.b m'.a m'.b) = true := h
    rw [Bool.not_eq_true'] at h'
    rw [same, h']; simp
  · refine retK.ok rfl rfl (congrArg AV.bool ?_) .bool
    have h' : (((rows m.fs).length : Int) != ((rows m'.fs).length : Int)) = true := h
    simp [rows_length] at h'
    rw [same, eqFs_len (by omega)]; simp
  · rename_i h0 h1
    have e0 : (m.v == m'.v) = true := by simpa [bne] using h0
    have e1 : (!weq m.a m.b m'.a m'.b) = false := h1
    rw [Bool.not_eq_false'] at e1
    have e2 : (((rows m.fs).length : Int) != ((rows m'.fs).length : Int)) = false := h
    simp [rows_length] at e2
    have hs : same m m' = eqFs m.fs m'.fs := by rw [same, e0, e1]; rfl
    have hl : m.fs.length = m'.fs.length := by omega
    rw [hs]
    clear h h0 h1
    refine WpA.loopS (α := Nat) (fun i => [(2, .ptr H.length 0 0), (3, .ptr H.length 1 0), (5, .int .i64 i)]) (fun _ => H ++ [AObj.cells (m.cells .no), AObj.cells (m'.cells .no)]) (fun i => i ≤ m.fs.length ∧ eqFs m.fs m'.fs = eqFs (m.fs.drop i) (m'.fs.drop i)) (fun i => m.fs.length - i) 0 ⟨Nat.zero_le _, rfl⟩ ⟨rfl, rfl, rfl, trivial⟩ rfl ?_
    rintro i ⟨hi, hu⟩
    repeat' first
      | refine WpA.seq ?_
      | refine WpA.region ?_
      | refine WpOps.op _ rfl rfl rfl rfl rfl ?_
      | refine WpOps.box _ rfl rfl rfl rfl rfl ?_
      | refine WpOps.alloc _ rfl rfl rfl rfl rfl rfl ?_
      | refine WpOps.store rfl rfl rfl rfl rfl rfl rfl rfl rfl rfl ?_
      | refine WpOps.skip rfl rfl rfl ?_
      | refine WpOps.build _ rfl rfl rfl rfl rfl ?_
      | refine WpOps.sh _ rfl rfl rfl rfl rfl ?_
      | refine WpOps.gsplit _ rfl rfl rfl (fun h => ?_) (fun h => ?_)
      | refine WpA.block ?_
      | refine WpA.exit ?_
      | refine WpOps.nil ?_
      | refine WpA.ret ?_
      | refine WpA.skip ?_
      | refine WpA.condT rfl ?_
      | refine WpA.condF rfl ?_
      | refine WpA.cond _ rfl (fun h => ?_) (fun h => ?_)
      | refine WpA.draw (by kernel_rfl) ?_
      | refine LexA.op _ rfl rfl rfl rfl rfl ?_
      | refine LexA.skip rfl rfl rfl ?_
      | refine LexA.build _ rfl rfl rfl rfl rfl ?_
      | refine LexA.sh _ rfl rfl rfl rfl rfl ?_
      | refine LexA.gsplit _ rfl rfl rfl (fun h => ?_) (fun h => ?_)
      | refine LexA.nil ?_
    · simp [rows_length] at h
      have hlt : i < m.fs.length := h
      have hlt' : i < m'.fs.length := by omega
      clear h
      rw [List.drop_eq_getElem_cons hlt, List.drop_eq_getElem_cons hlt', eqFs] at hu
      have hwi : IntKind.i64.wrap ((i : Int) + 1) = ((i + 1 : Nat) : Int) := wrap64 (by omega) (by omega)
      refine LexA.elem (m.fs[i]).row rfl rfl rfl rfl rfl rfl rfl rfl rfl (Int.natCast_nonneg _) (rows_get hlt) ?_
      repeat' first
        | refine WpA.seq ?_
        | refine WpA.region ?_
        | refine WpOps.op _ rfl rfl rfl rfl rfl ?_
        | refine WpOps.box _ rfl rfl rfl rfl rfl ?_
        | refine WpOps.alloc _ rfl rfl rfl rfl rfl rfl ?_
        | refine WpOps.store rfl rfl rfl rfl rfl rfl rfl rfl rfl rfl ?_
        | refine WpOps.skip rfl rfl rfl ?_
        | refine WpOps.build _ rfl rfl rfl rfl rfl ?_
        | refine WpOps.sh _ rfl rfl rfl rfl rfl ?_
        | refine WpOps.gsplit _ rfl rfl rfl (fun h => ?_) (fun h => ?_)
        | refine WpA.block ?_
        | refine WpA.exit ?_
        | refine WpOps.nil ?_
        | refine WpA.ret ?_
        | refine WpA.skip ?_
        | refine WpA.condT rfl ?_
        | refine WpA.condF rfl ?_
        | refine WpA.cond _ rfl (fun h => ?_) (fun h => ?_)
        | refine WpA.draw (by kernel_rfl) ?_
        | refine LexA.op _ rfl rfl rfl rfl rfl ?_
        | refine LexA.skip rfl rfl rfl ?_
        | refine LexA.build _ rfl rfl rfl rfl rfl ?_
        | refine LexA.sh _ rfl rfl rfl rfl rfl ?_
        | refine LexA.gsplit _ rfl rfl rfl (fun h => ?_) (fun h => ?_)
        | refine LexA.nil ?_
      refine LexA.elem (m'.fs[i]).row rfl rfl rfl rfl rfl rfl rfl rfl rfl (Int.natCast_nonneg _) (rows_get hlt') ?_
      repeat' first
        | refine WpA.seq ?_
        | refine WpA.region ?_
        | refine WpOps.op _ rfl rfl rfl rfl rfl ?_
        | refine WpOps.box _ rfl rfl rfl rfl rfl ?_
        | refine WpOps.alloc _ rfl rfl rfl rfl rfl rfl ?_
        | refine WpOps.store rfl rfl rfl rfl rfl rfl rfl rfl rfl rfl ?_
        | refine WpOps.skip rfl rfl rfl ?_
        | refine WpOps.build _ rfl rfl rfl rfl rfl ?_
        | refine WpOps.sh _ rfl rfl rfl rfl rfl ?_
        | refine LexA.neA rfl rfl rfl rfl rfl rfl key53 (by exact eqFile _ _) ?_
        | refine WpOps.gsplit _ rfl rfl rfl (fun h => ?_) (fun h => ?_)
        | refine WpA.block ?_
        | refine WpA.exit ?_
        | refine WpOps.nil ?_
        | refine WpA.ret ?_
        | refine WpA.skip ?_
        | refine WpA.condT rfl ?_
        | refine WpA.condF rfl ?_
        | refine WpA.cond _ rfl (fun h => ?_) (fun h => ?_)
        | refine WpA.draw (by kernel_rfl) ?_
        | refine LexA.op _ rfl rfl rfl rfl rfl ?_
        | refine LexA.skip rfl rfl rfl ?_
        | refine LexA.build _ rfl rfl rfl rfl rfl ?_
        | refine LexA.sh _ rfl rfl rfl rfl rfl ?_
        | refine LexA.gsplit _ rfl rfl rfl (fun h => ?_) (fun h => ?_)
        | refine LexA.nil ?_
      · refine retK.ok rfl rfl (congrArg AV.bool ?_) .bool
        rw [Bool.not_eq_true'] at h
        rw [hu, h]; rfl
      · refine ⟨i + 1, ⟨hlt, ?_⟩, by omega, ⟨rfl, rfl, congrArg (AV.int .i64) hwi, trivial⟩, rfl⟩
        rw [Bool.not_eq_false'] at h
        rw [hu, h]; rfl
    · simp [rows_length] at h
      refine retK.ok rfl rfl (congrArg AV.bool ?_) .bool
      rw [hu, List.drop_eq_nil_of_le (by omega), List.drop_eq_nil_of_le (by omega)]
      rfl
end Go.Gp.Tryd
