/- Part of a proof: GdX1, GdP5, GdX2, GdC1, GdX3 -/
import Derived.Test.YtmacdhglhafldaaDoorK34
import Derived.Test.YtmacdhglhafldaaDoorK35

/- The laws of manifests: their own small functions. -/
namespace Go.Gp.Tryd
open Go.Proofs
set_option linter.unusedVariables false
set_option linter.unusedSimpArgs false
set_option maxHeartbeats 4000000
set_option maxRecDepth 100000

theorem file_A (n b : List UInt8) (H : List AObj) (hb : b.length ≤ 140737488355328) : CallsA E 26 [.str n, .str b] H (Is H (.agg (NFile.mk n b).row)) := by
  refine .enter Tryd.func26 rfl rfl rfl 9 Tryd.ntmps26 (Nat.le_of_ble_eq_true rfl) ?_
  repeat' first
    | (refine WpOps.p1 rfl rfl rfl (.strSl rfl rfl rfl rfl rfl hb) ?_)
    | refine WpA.seq ?_
    | refine WpA.region ?_
    | refine WpOps.op _ rfl rfl rfl rfl rfl ?_
    | refine WpOps.box _ rfl rfl rfl rfl rfl ?_
    | refine WpOps.alloc _ rfl rfl rfl rfl rfl rfl ?_
    | refine WpOps.store rfl rfl rfl rfl rfl rfl rfl rfl rfl rfl ?_
    | refine WpOps.skip rfl rfl rfl ?_
    | refine WpOps.build _ rfl rfl rfl rfl rfl ?_
    | refine WpOps.sh _ rfl rfl rfl rfl rfl ?_
    | refine WpOps.gsplit _ rfl rfl rfl (fun h => ?_) (fun h => ?_)
    | refine WpA.block ?_
    | refine WpA.exit ?_
    | refine WpOps.nil ?_
    | refine WpA.ret ?_
    | refine WpA.skip ?_
    | refine WpA.condT rfl ?_
    | refine WpA.condF rfl ?_
    | refine WpA.cond _ rfl (fun h => ?_) (fun h => ?_)
    | refine WpA.draw (by kernel_rfl) ?_
    | refine LexA.op _ rfl rfl rfl rfl rfl ?_
    | refine LexA.skip rfl rfl rfl ?_
    | refine LexA.build _ rfl rfl rfl rfl rfl ?_
    | refine LexA.sh _ rfl rfl rfl rfl rfl ?_
    | refine LexA.gsplit _ rfl rfl rfl (fun h => ?_) (fun h => ?_)
    | refine LexA.nil ?_
  exact retK.ok rfl rfl rfl (.agg (bd_file _ _))

theorem strs_get {l : List (List UInt8)} {i : Nat} (h : i < l.length) : (strs l)[((i : Nat) : Int).toNat]? = some [.str l[i]] := by
  rw [Int.toNat_natCast, strs, List.getElem?_map, List.getElem?_eq_getElem h]; rfl
theorem sameNames_A (x y : List (List UInt8)) (tg tg' : Tag) (H : List AObj) (hx : x.length ≤ 1125899906842624) :
    CallsA E 44 [.sl tg 1 (strs x), .sl tg' 1 (strs y)] H (Is H (.bool (x == y))) := by
  have hlx := strs_len x
  have hly := strs_len y
  refine .enter Tryd.func44 rfl rfl rfl 26 Tryd.ntmps44 (Nat.le_of_ble_eq_true rfl) ?_
  repeat' first
    | refine WpA.seq ?_
    | refine WpA.region ?_
    | refine WpOps.op _ rfl rfl rfl rfl rfl ?_
    | refine WpOps.box _ rfl rfl rfl rfl rfl ?_
    | refine WpOps.alloc _ rfl rfl rfl rfl rfl rfl ?_
    | refine WpOps.store rfl rfl rfl rfl rfl rfl rfl rfl rfl rfl ?_
    | refine WpOps.skip rfl rfl rfl ?_
    | refine WpOps.build _ rfl rfl rfl rfl rfl ?_
    | refine WpOps.sh _ rfl rfl rfl rfl rfl ?_
    | refine WpOps.gsplit _ rfl rfl rfl (fun h => ?_) (fun h => ?_)
    | refine WpA.block ?_
    | refine WpA.exit ?_
    | refine WpOps.nil ?_
    | refine WpA.ret ?_
    | refine WpA.skip ?_
    | refine WpA.condT rfl ?_
    | refine WpA.condF rfl ?_
    | refine WpA.cond _ rfl (fun h => ?_) (fun h => ?_)
    | refine WpA.draw (by kernel_rfl) ?_
    | refine LexA.op _ rfl rfl rfl rfl rfl ?_
    | refine LexA.skip rfl rfl rfl ?_
    | refine LexA.build _ rfl rfl rfl rfl rfl ?_
    | refine LexA.sh _ rfl rfl rfl rfl rfl ?_
    | refine LexA.gsplit _ rfl rfl rfl (fun h => ?_) (fun h => ?_)
    | refine LexA.nil ?_
  · refine retK.ok rfl rfl (congrArg AV.bool ?_) .bool
    simp only [hlx, hly, bne_iff_ne, ne_eq] at h
    symm
    rw [beq_eq_false_iff_ne]
    intro e; subst e; exact h rfl
  · have hl : x.length = y.length := by simp only [hlx, hly, bne_eq_false_iff_eq] at h; omega
    clear h
    refine WpA.loopFor x.length (fun i => [(0, .sl tg 1 (strs x)), (1, .sl tg' 1 (strs y)), (5, .int .i64 (i : Nat))]) (fun _ => H ++ []) (fun i => x.take i = y.take i) rfl ⟨rfl, rfl, rfl, trivial⟩ rfl (fun i hi hok => ?_) (fun hok => ?_)
    · repeat' first
        | refine WpA.seq ?_
        | refine WpA.region ?_
        | refine WpOps.op _ rfl rfl rfl rfl rfl ?_
        | refine WpOps.box _ rfl rfl rfl rfl rfl ?_
        | refine WpOps.alloc _ rfl rfl rfl rfl rfl rfl ?_
        | refine WpOps.store rfl rfl rfl rfl rfl rfl rfl rfl rfl rfl ?_
        | refine WpOps.skip rfl rfl rfl ?_
        | refine WpOps.build _ rfl rfl rfl rfl rfl ?_
        | refine WpOps.sh _ rfl rfl rfl rfl rfl ?_
        | (refine LexA.elem [.str x[i]] rfl rfl rfl rfl rfl rfl rfl rfl rfl (Int.natCast_nonneg i) (strs_get hi) ?_)
        | (refine LexA.elem [.str (y[i]'(by omega))] rfl rfl rfl rfl rfl rfl rfl rfl rfl (Int.natCast_nonneg i) (strs_get (by omega)) ?_)
        | refine WpOps.gsplit _ rfl rfl rfl (fun h => ?_) (fun h => ?_)
        | refine WpA.block ?_
        | refine WpA.exit ?_
        | refine WpOps.nil ?_
        | refine WpA.ret ?_
        | refine WpA.skip ?_
        | refine WpA.condT rfl ?_
        | refine WpA.condF rfl ?_
        | refine WpA.cond _ rfl (fun h => ?_) (fun h => ?_)
        | refine WpA.draw (by kernel_rfl) ?_
        | refine LexA.op _ rfl rfl rfl rfl rfl ?_
        | refine LexA.skip rfl rfl rfl ?_
        | refine LexA.build _ rfl rfl rfl rfl rfl ?_
        | refine LexA.sh _ rfl rfl rfl rfl rfl ?_
        | refine LexA.gsplit _ rfl rfl rfl (fun h => ?_) (fun h => ?_)
        | refine LexA.nil ?_
      · refine retK.ok rfl rfl (congrArg AV.bool ?_) .bool
        rw [Bool.not_eq_true'] at h
        symm
        rw [beq_eq_false_iff_ne]
        intro e; subst e
        simp at h
      · rw [Bool.not_eq_false'] at h
        have he : x[i] = y[i]'(by omega) := by simpa using h
        refine ⟨?_, ⟨rfl, rfl, congrArg (AV.int .i64) (wrap64 (by omega) (by omega)), trivial⟩, rfl⟩
        rw [List.take_succ_eq_append_getElem hi, List.take_succ_eq_append_getElem (by omega), hok, he]
      · simp only [hlx, decide_eq_false_iff_not] at *
        omega
    · repeat' first
        | refine WpA.seq ?_
        | refine WpA.region ?_
        | refine WpOps.op _ rfl rfl rfl rfl rfl ?_
        | refine WpOps.box _ rfl rfl rfl rfl rfl ?_
        | refine WpOps.alloc _ rfl rfl rfl rfl rfl rfl ?_
        | refine WpOps.store rfl rfl rfl rfl rfl rfl rfl rfl rfl rfl ?_
        | refine WpOps.skip rfl rfl rfl ?_
        | refine WpOps.build _ rfl rfl rfl rfl rfl ?_
        | refine WpOps.sh _ rfl rfl rfl rfl rfl ?_
        | refine WpOps.gsplit _ rfl rfl rfl (fun h => ?_) (fun h => ?_)
        | refine WpA.block ?_
        | refine WpA.exit ?_
        | refine WpOps.nil ?_
        | refine WpA.ret ?_
        | refine WpA.skip ?_
        | refine WpA.condT rfl ?_
        | refine WpA.condF rfl ?_
        | refine WpA.cond _ rfl (fun h => ?_) (fun h => ?_)
        | refine WpA.draw (by kernel_rfl) ?_
        | refine LexA.op _ rfl rfl rfl rfl rfl ?_
        | refine LexA.skip rfl rfl rfl ?_
        | refine LexA.build _ rfl rfl rfl rfl rfl ?_
        | refine LexA.sh _ rfl rfl rfl rfl rfl ?_
        | refine LexA.gsplit _ rfl rfl rfl (fun h => ?_) (fun h => ?_)
        | refine LexA.nil ?_
      · simp only [hlx, decide_eq_true_eq] at *
        omega
      · refine retK.ok rfl rfl (congrArg AV.bool ?_) .bool
        rw [List.take_length, hl, List.take_length] at hok
        rw [hok]; simp

def sameRep (r s : Rep) : Bool := r.miss == s.miss && (r.wrong == s.wrong && r.extra == s.extra)
theorem sameReport_A (r s : Rep) (H : List AObj) (h1 : r.miss.length ≤ 1125899906842624) (h2 : r.wrong.length ≤ 1125899906842624) (h3 : r.extra.length ≤ 1125899906842624) :
    CallsA E 18 [r.av, s.av] H (Is H (.bool (sameRep r s))) := by
  have e1 := fun H => sameNames_A r.miss s.miss .no .no H h1
  have e2 := fun H => sameNames_A r.wrong s.wrong .no .no H h2
  have e3 := fun H => sameNames_A r.extra s.extra .no .no H h3
  refine .enter Tryd.func18 rfl rfl rfl 24 Tryd.ntmps18 (Nat.le_of_ble_eq_true rfl) ?_
  cases b1 : r.miss == s.miss <;> cases b2 : r.wrong == s.wrong <;> rw [b1] at e1 <;> rw [b2] at e2
  · repeat' first
      | refine WpA.seq ?_
      | refine WpA.region ?_
      | refine WpOps.op _ rfl rfl rfl rfl rfl ?_
      | refine WpOps.box _ rfl rfl rfl rfl rfl ?_
      | refine WpOps.alloc _ rfl rfl rfl rfl rfl rfl ?_
      | refine WpOps.store rfl rfl rfl rfl rfl rfl rfl rfl rfl rfl ?_
      | refine WpOps.skip rfl rfl rfl ?_
      | refine WpOps.build _ rfl rfl rfl rfl rfl ?_
      | refine WpOps.sh _ rfl rfl rfl rfl rfl ?_
      | (refine WpOps.call rfl rfl rfl rfl rfl (by exact e1 _) ?_; rintro _ _ ⟨rfl, rfl⟩)
      | refine WpOps.gsplit _ rfl rfl rfl (fun h => ?_) (fun h => ?_)
      | refine WpA.block ?_
      | refine WpA.exit ?_
      | refine WpOps.nil ?_
      | refine WpA.ret ?_
      | refine WpA.skip ?_
      | refine WpA.condT rfl ?_
      | refine WpA.condF rfl ?_
      | refine WpA.cond _ rfl (fun h => ?_) (fun h => ?_)
      | refine WpA.draw (by kernel_rfl) ?_
      | refine LexA.op _ rfl rfl rfl rfl rfl ?_
      | refine LexA.skip rfl rfl rfl ?_
      | refine LexA.build _ rfl rfl rfl rfl rfl ?_
      | refine LexA.sh _ rfl rfl rfl rfl rfl ?_
      | refine LexA.call rfl rfl rfl rfl rfl (by exact e1 _) ?_
      | refine LexA.gsplit _ rfl rfl rfl (fun h => ?_) (fun h => ?_)
      | refine LexA.nil ?_
    exact retK.ok rfl rfl (congrArg AV.bool (by rw [sameRep, b1]; rfl)) .bool
  · repeat' first
      | refine WpA.seq ?_
      | refine WpA.region ?_
      | refine WpOps.op _ rfl rfl rfl rfl rfl ?_
      | refine WpOps.box _ rfl rfl rfl rfl rfl ?_
      | refine WpOps.alloc _ rfl rfl rfl rfl rfl rfl ?_
      | refine WpOps.store rfl rfl rfl rfl rfl rfl rfl rfl rfl rfl ?_
      | refine WpOps.skip rfl rfl rfl ?_
      | refine WpOps.build _ rfl rfl rfl rfl rfl ?_
      | refine WpOps.sh _ rfl rfl rfl rfl rfl ?_
      | (refine WpOps.call rfl rfl rfl rfl rfl (by exact e1 _) ?_; rintro _ _ ⟨rfl, rfl⟩)
      | refine WpOps.gsplit _ rfl rfl rfl (fun h => ?_) (fun h => ?_)
      | refine WpA.block ?_
      | refine WpA.exit ?_
      | refine WpOps.nil ?_
      | refine WpA.ret ?_
      | refine WpA.skip ?_
      | refine WpA.condT rfl ?_
      | refine WpA.condF rfl ?_
      | refine WpA.cond _ rfl (fun h => ?_) (fun h => ?_)
      | refine WpA.draw (by kernel_rfl) ?_
      | refine LexA.op _ rfl rfl rfl rfl rfl ?_
      | refine LexA.skip rfl rfl rfl ?_
      | refine LexA.build _ rfl rfl rfl rfl rfl ?_
      | refine LexA.sh _ rfl rfl rfl rfl rfl ?_
      | refine LexA.call rfl rfl rfl rfl rfl (by exact e1 _) ?_
      | refine LexA.gsplit _ rfl rfl rfl (fun h => ?_) (fun h => ?_)
      | refine LexA.nil ?_
    exact retK.ok rfl rfl (congrArg AV.bool (by rw [sameRep, b1]; rfl)) .bool
  · repeat' first
      | refine WpA.seq ?_
      | refine WpA.region ?_
      | refine WpOps.op _ rfl rfl rfl rfl rfl ?_
      | refine WpOps.box _ rfl rfl rfl rfl rfl ?_
      | refine WpOps.alloc _ rfl rfl rfl rfl rfl rfl ?_
      | refine WpOps.store rfl rfl rfl rfl rfl rfl rfl rfl rfl rfl ?_
      | refine WpOps.skip rfl rfl rfl ?_
      | refine WpOps.build _ rfl rfl rfl rfl rfl ?_
      | refine WpOps.sh _ rfl rfl rfl rfl rfl ?_
      | (refine WpOps.call rfl rfl rfl rfl rfl (by exact e1 _) ?_; rintro _ _ ⟨rfl, rfl⟩)
      | (refine WpOps.call rfl rfl rfl rfl rfl (by exact e2 _) ?_; rintro _ _ ⟨rfl, rfl⟩)
      | refine WpOps.gsplit _ rfl rfl rfl (fun h => ?_) (fun h => ?_)
      | refine WpA.block ?_
      | refine WpA.exit ?_
      | refine WpOps.nil ?_
      | refine WpA.ret ?_
      | refine WpA.skip ?_
      | refine WpA.condT rfl ?_
      | refine WpA.condF rfl ?_
      | refine WpA.cond _ rfl (fun h => ?_) (fun h => ?_)
      | refine WpA.draw (by kernel_rfl) ?_
      | refine LexA.op _ rfl rfl rfl rfl rfl ?_
      | refine LexA.skip rfl rfl rfl ?_
      | refine LexA.build _ rfl rfl rfl rfl rfl ?_
      | refine LexA.sh _ rfl rfl rfl rfl rfl ?_
      | refine LexA.call rfl rfl rfl rfl rfl (by exact e1 _) ?_
      | refine LexA.call rfl rfl rfl rfl rfl (by exact e2 _) ?_
      | refine LexA.gsplit _ rfl rfl rfl (fun h => ?_) (fun h => ?_)
      | refine LexA.nil ?_
    exact retK.ok rfl rfl (congrArg AV.bool (by rw [sameRep, b1, b2]; rfl)) .bool
  · repeat' first
      | refine WpA.seq ?_
      | refine WpA.region ?_
      | refine WpOps.op _ rfl rfl rfl rfl rfl ?_
      | refine WpOps.box _ rfl rfl rfl rfl rfl ?_
      | refine WpOps.alloc _ rfl rfl rfl rfl rfl rfl ?_
      | refine WpOps.store rfl rfl rfl rfl rfl rfl rfl rfl rfl rfl ?_
      | refine WpOps.skip rfl rfl rfl ?_
      | refine WpOps.build _ rfl rfl rfl rfl rfl ?_
      | refine WpOps.sh _ rfl rfl rfl rfl rfl ?_
      | (refine WpOps.call rfl rfl rfl rfl rfl (by exact e1 _) ?_; rintro _ _ ⟨rfl, rfl⟩)
      | (refine WpOps.call rfl rfl rfl rfl rfl (by exact e2 _) ?_; rintro _ _ ⟨rfl, rfl⟩)
      | (refine WpOps.call rfl rfl rfl rfl rfl (by exact e3 _) ?_; rintro _ _ ⟨rfl, rfl⟩)
      | refine WpOps.gsplit _ rfl rfl rfl (fun h => ?_) (fun h => ?_)
      | refine WpA.block ?_
      | refine WpA.exit ?_
      | refine WpOps.nil ?_
      | refine WpA.ret ?_
      | refine WpA.skip ?_
      | refine WpA.condT rfl ?_
      | refine WpA.condF rfl ?_
      | refine WpA.cond _ rfl (fun h => ?_) (fun h => ?_)
      | refine WpA.draw (by kernel_rfl) ?_
      | refine LexA.op _ rfl rfl rfl rfl rfl ?_
      | refine LexA.skip rfl rfl rfl ?_
      | refine LexA.build _ rfl rfl rfl rfl rfl ?_
      | refine LexA.sh _ rfl rfl rfl rfl rfl ?_
      | refine LexA.call rfl rfl rfl rfl rfl (by exact e1 _) ?_
      | refine LexA.call rfl rfl rfl rfl rfl (by exact e2 _) ?_
      | refine LexA.call rfl rfl rfl rfl rfl (by exact e3 _) ?_
      | refine LexA.gsplit _ rfl rfl rfl (fun h => ?_) (fun h => ?_)
      | refine LexA.nil ?_
    exact retK.ok rfl rfl (congrArg AV.bool (by rw [sameRep, b1, b2]; rfl)) .bool

def greatF1 (f : NFile) : Bool := decide (200 < f.name.length) || decide (300 < f.bytes.length)
def greatFs (fs : List NFile) : Bool := (decide (12 < fs.length) && decide (fs.length ≤ 200)) || (decide (210 < fs.length) || fs.any greatF1)
theorem greatFs_false {fs : List NFile} (h : greatFs fs = false) : (fs.length ≤ 12 ∨ 200 < fs.length ∧ fs.length ≤ 210) ∧ ∀ f ∈ fs, f.name.length ≤ 200 ∧ f.bytes.length ≤ 300 := by
  simp only [greatFs, Bool.or_eq_false_iff, Bool.and_eq_false_iff, decide_eq_false_iff_not, List.any_eq_false] at h
  refine ⟨by omega, fun f hf => ?_⟩
  have := h.2.2 f hf
  simp only [greatF1, Bool.or_eq_true, decide_eq_true_eq] at this
  omega
theorem greatFiles_A (fs : List NFile) (H : List AObj) (hl : fs.length ≤ 1000000000000000) : CallsA E 10 [.sl .no 2 (nrows fs)] H (Is H (.bool (greatFs fs))) := by
  have hlen := nrows_len fs
  refine .enter Tryd.func10 rfl rfl rfl 39 Tryd.ntmps10 (Nat.le_of_ble_eq_true rfl) ?_
  by_cases hbig : (12 < fs.length ∧ fs.length ≤ 200) ∨ 210 < fs.length
  · have hg : greatFs fs = true := by
      simp only [greatFs, Bool.or_eq_true, Bool.and_eq_true, decide_eq_true_eq]
      rcases hbig with h | h
      · exact .inl h
      · exact .inr (.inl h)
    rw [hg]
    repeat' first
      | refine WpA.seq ?_
      | refine WpA.region ?_
      | refine WpOps.op _ rfl rfl rfl rfl rfl ?_
      | refine WpOps.box _ rfl rfl rfl rfl rfl ?_
      | refine WpOps.alloc _ rfl rfl rfl rfl rfl rfl ?_
      | refine WpOps.store rfl rfl rfl rfl rfl rfl rfl rfl rfl rfl ?_
      | refine WpOps.skip rfl rfl rfl ?_
      | refine WpOps.build _ rfl rfl rfl rfl rfl ?_
      | refine WpOps.sh _ rfl rfl rfl rfl rfl ?_
      | refine WpOps.gsplit _ rfl rfl rfl (fun h => ?_) (fun h => ?_)
      | refine WpA.block ?_
      | refine WpA.exit ?_
      | refine WpOps.nil ?_
      | refine WpA.ret ?_
      | refine WpA.skip ?_
      | refine WpA.condT rfl ?_
      | refine WpA.condF rfl ?_
      | refine WpA.cond _ rfl (fun h => ?_) (fun h => ?_)
      | refine WpA.draw (by kernel_rfl) ?_
      | refine LexA.op _ rfl rfl rfl rfl rfl ?_
      | refine LexA.skip rfl rfl rfl ?_
      | refine LexA.build _ rfl rfl rfl rfl rfl ?_
      | refine LexA.sh _ rfl rfl rfl rfl rfl ?_
      | refine LexA.gsplit _ rfl rfl rfl (fun h => ?_) (fun h => ?_)
      | refine LexA.nil ?_
    all_goals first
      | exact retK.ok rfl rfl rfl .bool
      | (exfalso; simp only [hlen, cond_true, cond_false, decide_eq_true_eq, decide_eq_false_iff_not] at *; omega)
  · have hg : greatFs fs = fs.any greatF1 := by
      have h1 : (decide (12 < fs.length) && decide (fs.length ≤ 200)) = false := by
        cases h : decide (12 < fs.length) <;> simp at h ⊢
        omega
      have h2 : decide (210 < fs.length) = false := by simp; omega
      rw [greatFs, h1, h2]; rfl
    rw [hg]
    repeat' first
      | refine WpA.seq ?_
      | refine WpA.region ?_
      | refine WpOps.op _ rfl rfl rfl rfl rfl ?_
      | refine WpOps.box _ rfl rfl rfl rfl rfl ?_
      | refine WpOps.alloc _ rfl rfl rfl rfl rfl rfl ?_
      | refine WpOps.store rfl rfl rfl rfl rfl rfl rfl rfl rfl rfl ?_
      | refine WpOps.skip rfl rfl rfl ?_
      | refine WpOps.build _ rfl rfl rfl rfl rfl ?_
      | refine WpOps.sh _ rfl rfl rfl rfl rfl ?_
      | refine WpOps.gsplit _ rfl rfl rfl (fun h => ?_) (fun h => ?_)
      | refine WpA.block ?_
      | refine WpA.exit ?_
      | refine WpOps.nil ?_
      | refine WpA.ret ?_
      | refine WpA.skip ?_
      | refine WpA.condT rfl ?_
      | refine WpA.condF rfl ?_
      | refine WpA.cond _ rfl (fun h => ?_) (fun h => ?_)
      | refine WpA.draw (by kernel_rfl) ?_
      | refine LexA.op _ rfl rfl rfl rfl rfl ?_
      | refine LexA.skip rfl rfl rfl ?_
      | refine LexA.build _ rfl rfl rfl rfl rfl ?_
      | refine LexA.sh _ rfl rfl rfl rfl rfl ?_
      | refine LexA.gsplit _ rfl rfl rfl (fun h => ?_) (fun h => ?_)
      | refine LexA.nil ?_
    all_goals first
      | (exfalso; simp only [hlen, cond_true, cond_false, decide_eq_true_eq, decide_eq_false_iff_not] at *; omega)
      | skip
    all_goals
      refine WpA.loopFor fs.length (fun i => [(0, .sl .no 2 (nrows fs)), (3, .int .i64 (i : Nat))]) (fun _ => H ++ []) (fun i => (fs.take i).any greatF1 = false) rfl ⟨rfl, rfl, trivial⟩ rfl (fun i hi hok => ?_) (fun hok => ?_)
      · have hge := nrows_get hi
        have hst : (fs.take (i + 1)).any greatF1 = greatF1 fs[i] := by rw [List.take_succ_eq_append_getElem hi, List.any_append, hok]; simp
        have hlb : (fs[i].bytes.map byteRow).length = fs[i].bytes.length := List.length_map _
        have hany : greatF1 fs[i] = true → fs.any greatF1 = true := fun h => List.any_eq_true.2 ⟨_, List.getElem_mem hi, h⟩
        repeat' first
          | (refine WpOps.elem _ rfl rfl rfl rfl rfl rfl rfl rfl rfl (Int.natCast_nonneg i) hge ?_)
          | refine WpA.seq ?_
          | refine WpA.region ?_
          | refine WpOps.op _ rfl rfl rfl rfl rfl ?_
          | refine WpOps.box _ rfl rfl rfl rfl rfl ?_
          | refine WpOps.alloc _ rfl rfl rfl rfl rfl rfl ?_
          | refine WpOps.store rfl rfl rfl rfl rfl rfl rfl rfl rfl rfl ?_
          | refine WpOps.skip rfl rfl rfl ?_
          | refine WpOps.build _ rfl rfl rfl rfl rfl ?_
          | refine WpOps.sh _ rfl rfl rfl rfl rfl ?_
          | refine WpOps.gsplit _ rfl rfl rfl (fun h => ?_) (fun h => ?_)
          | refine WpA.block ?_
          | refine WpA.exit ?_
          | refine WpOps.nil ?_
          | refine WpA.ret ?_
          | refine WpA.skip ?_
          | refine WpA.condT rfl ?_
          | refine WpA.condF rfl ?_
          | refine WpA.cond _ rfl (fun h => ?_) (fun h => ?_)
          | refine WpA.draw (by kernel_rfl) ?_
          | refine LexA.op _ rfl rfl rfl rfl rfl ?_
          | refine LexA.skip rfl rfl rfl ?_
          | refine LexA.build _ rfl rfl rfl rfl rfl ?_
          | refine LexA.sh _ rfl rfl rfl rfl rfl ?_
          | refine LexA.gsplit _ rfl rfl rfl (fun h => ?_) (fun h => ?_)
          | refine LexA.nil ?_
        all_goals first
          | (exfalso; simp only [hlen, cond_true, cond_false, decide_eq_true_eq, decide_eq_false_iff_not] at *; omega)
          | (refine retK.ok rfl rfl (congrArg AV.bool ?_) .bool
             symm
             apply hany
             simp only [greatF1, Bool.or_eq_true, decide_eq_true_eq]
             simp only [hlb, cond_true, cond_false, decide_eq_true_eq, decide_eq_false_iff_not] at *
             omega)
          | (refine ⟨?_, ⟨rfl, congrArg (AV.int .i64) (wrap64 (by omega) (by omega)), trivial⟩, rfl⟩
             rw [hst]
             simp only [greatF1, Bool.or_eq_false_iff, decide_eq_false_iff_not]
             simp only [hlb, cond_true, cond_false, decide_eq_true_eq, decide_eq_false_iff_not] at *
             omega)
      · repeat' first
          | refine WpA.seq ?_
          | refine WpA.region ?_
          | refine WpOps.op _ rfl rfl rfl rfl rfl ?_
          | refine WpOps.box _ rfl rfl rfl rfl rfl ?_
          | refine WpOps.alloc _ rfl rfl rfl rfl rfl rfl ?_
          | refine WpOps.store rfl rfl rfl rfl rfl rfl rfl rfl rfl rfl ?_
          | refine WpOps.skip rfl rfl rfl ?_
          | refine WpOps.build _ rfl rfl rfl rfl rfl ?_
          | refine WpOps.sh _ rfl rfl rfl rfl rfl ?_
          | refine WpOps.gsplit _ rfl rfl rfl (fun h => ?_) (fun h => ?_)
          | refine WpA.block ?_
          | refine WpA.exit ?_
          | refine WpOps.nil ?_
          | refine WpA.ret ?_
          | refine WpA.skip ?_
          | refine WpA.condT rfl ?_
          | refine WpA.condF rfl ?_
          | refine WpA.cond _ rfl (fun h => ?_) (fun h => ?_)
          | refine WpA.draw (by kernel_rfl) ?_
          | refine LexA.op _ rfl rfl rfl rfl rfl ?_
          | refine LexA.skip rfl rfl rfl ?_
          | refine LexA.build _ rfl rfl rfl rfl rfl ?_
          | refine LexA.sh _ rfl rfl rfl rfl rfl ?_
          | refine LexA.gsplit _ rfl rfl rfl (fun h => ?_) (fun h => ?_)
          | refine LexA.nil ?_
        · exfalso
          simp only [hlen, cond_true, cond_false, decide_eq_true_eq] at *
          omega
        · rw [List.take_length] at hok
          exact retK.ok rfl rfl (congrArg AV.bool hok.symm) .bool
end Go.Gp.Tryd

/- Manifests: what is encoded is decoded, and back. -/
namespace Go.Gp.Tryd
open Go.Proofs
set_option linter.unusedVariables false
set_option linter.unusedSimpArgs false
set_option maxRecDepth 100000
set_option maxHeartbeats 1000000

/-- A file as it is read: its digest's first 32 bytes. -/
def cf (f : File) : File := ⟨f.name, fun j => f.hs.getD j 0⟩
def cm (m : Man) : Man := ⟨m.v, m.a, m.b, m.fs.map cf⟩
theorem hs_length (f : File) : f.hs.length = 32 := by simp [File.hs]
theorem cf_hs (f : File) : (cf f).hs = f.hs := hs_of f.hs (hs_length f)
theorem row_hs (f : File) : f.row = .str f.name :: f.hs.map u8 := by
  unfold File.row File.hs
  rw [List.map_map]; rfl
theorem hash_hs (f : File) : f.hash = f.hs.map u8 := by
  unfold File.hash File.hs
  rw [List.map_map]; rfl
theorem cf_row (f : File) : (cf f).row = f.row := by rw [row_hs, row_hs, cf_hs]; rfl
theorem cf_hash (f : File) : (cf f).hash = f.hash := by rw [hash_hs, hash_hs, cf_hs]
theorem cf_fileO (f : File) : fileO (cf f) = fileO f := by unfold fileO; rw [cf_hs]; rfl
theorem cm_rows (m : Man) : rows (cm m).fs = rows m.fs := by
  unfold rows
  show (m.fs.map cf).map File.row = _
  rw [List.map_map]
  exact List.map_congr_left fun f _ => cf_row f
theorem cm_av (m : Man) (tg : Tag) : (cm m).av tg = m.av tg := by
  unfold Man.av
  rw [cm_rows]; rfl
theorem cm_manO (m : Man) : manO (cm m) = manO m := by
  show Oct.mk 128 [] (manHead m ++ (m.fs.map cf).map fileO) = _
  rw [List.map_map]
  have : m.fs.map (fileO ∘ cf) = m.fs.map fileO := List.map_congr_left fun f _ => cf_fileO f
  rw [this]; rfl
theorem cm_okAt (fs : List File) (i : Nat) : okAt (fs.map cf) i = okAt fs i := by
  unfold okAt
  rw [List.getElem?_map]
  cases fs[i]? with
  | none => rfl
  | some f =>
    cases i with
    | zero => rfl
    | succ k =>
      simp only [List.getElem?_map]
      cases fs[k]? <;> rfl
theorem cm_check (m : Man) : check (cm m) = check m := by
  unfold check manOk okUpTo
  show (if 200 < (m.fs.map cf).length then _ else if (win m.a m.b && (List.range (m.fs.map cf).length).all (okAt (m.fs.map cf))) then _ else _) = _
  rw [List.length_map]
  have : okAt (m.fs.map cf) = okAt m.fs := funext fun i => cm_okAt m.fs i
  rw [this]
theorem eqFs_cf : ∀ fs : List File, eqFs fs (fs.map cf) = true
  | [] => rfl
  | f :: fs => by
    rw [List.map_cons, eqFs, eqFs_cf fs]
    have h : feq f (cf f) = true := by
      unfold feq heq
      rw [cf_hash, eqAL_refl _ (hash_int f)]
      simp [cf]
    rw [h]; rfl
theorem same_cm (m : Man) : same m (cm m) = true := by
  unfold same weq
  show (m.v == m.v && ((m.a == m.a && _) && eqFs m.fs (m.fs.map cf))) = true
  rw [eqFs_cf]
  simp [cm]

theorem rd_numO {t : UInt8} {x : Nat} (hx : x < 18446744073709551616) : numR (numO t x) t = x := by
  have hr : readNum (numO t x) t big = (x, 0) := by
    have hb := be_val hx
    have hl := be_len8 (x := x) (by simpa using hx)
    unfold readNum
    have hbs : (numO t x).bs = be x := rfl
    rw [hbs, hb, if_pos ⟨rfl, rfl, hl, be_head x, by unfold big; omega⟩]
  unfold numR
  rw [hr]; rfl

theorem rdMan_manO {m : Man} (h : check m = 0) (hv0 : 0 ≤ m.v) (hv : m.v < 18446744073709551616) : rdMan (manO m) = cm m := by
  obtain ⟨g1, g2, g3, g4, g5, g6⟩ := check_good h
  have t1 : timeR (numR (numO 2 m.a.toNat) 2) = m.a := by
    rw [rd_numO (by omega)]
    unfold timeR tmax
    rw [if_neg (by omega)]
    omega
  have t2 : timeR (numR (numO 3 m.b.toNat) 3) = m.b := by
    rw [rd_numO (by omega)]
    unfold timeR tmax
    rw [if_neg (by omega)]
    omega
  have t0 : ((numR (numO 1 m.v.toNat) 1 : Nat) : Int) = m.v := by
    rw [rd_numO (by omega)]
    omega
  show Man.mk ((numR (numO 1 m.v.toNat) 1 : Nat) : Int) (timeR (numR (numO 2 m.a.toNat) 2)) (timeR (numR (numO 3 m.b.toNat) 3)) ((m.fs.map fileO).map rfileOf) = _
  rw [t0, t1, t2, List.map_map]
  rfl

/-- Decode after Encode. -/
theorem dec_enc {m : Man} (h : check m = 0) (hv0 : 0 ≤ m.v) (hv : m.v < 18446744073709551616) : decMan (manO m).enc = some (cm m) := by
  have hd := decP_enc h (by omega)
  rw [dec_same]
  unfold refDecM
  rw [hd]
  simp only
  rw [rdMan_manO h hv0 hv, if_pos]
  refine ⟨trivial, ?_, ?_, ?_, ?_⟩
  · show 3 ≤ (manHead m ++ m.fs.map fileO).length
    rw [List.length_append]
    exact Nat.le_add_right 3 _
  · show (m.fs.map fileO).all rOk = true
    rw [List.all_eq_true]
    intro x hx
    obtain ⟨f, _, rfl⟩ := List.mem_map.1 hx
    show ((2 : Nat) == 2 && f.hs.length == 32) = true
    rw [hs_length]; rfl
  · rw [cm_check, h]
  · rw [cm_manO]

/-- Encode after Decode. -/
theorem enc_dec {b : List UInt8} {m : Man} (h : decMan b = some m) : check m = 0 ∧ (manO m).enc = b ∧ 0 ≤ m.v ∧ m.v < 18446744073709551616 := by
  rw [dec_same] at h
  unfold refDecM at h
  split at h
  · rename_i hc
    obtain ⟨_, _, _, h1, h2⟩ := hc
    cases h
    have := numR_lt ((decP b).1.items.getD 0 zeroOct) 1
    exact ⟨h1, h2, Int.natCast_nonneg _, by show ((numR ((decP b).1.items.getD 0 zeroOct) 1 : Nat) : Int) < _; omega⟩
  · cases h
end Go.Gp.Tryd

/- The laws of manifests: the chapter's examples. -/
namespace Go.Gp.Tryd
open Go.Proofs
set_option linter.unusedVariables false
set_option linter.unusedSimpArgs false
set_option maxHeartbeats 4000000
set_option maxRecDepth 100000

def man1 : Man := ⟨1, 0, 9, []⟩
def ten : List UInt8 := [128, 8, 1, 1, 1, 2, 0, 3, 1, 9]
def exFs : List NFile := [⟨[98], [121]⟩, ⟨[97], [120]⟩]
def exGs : List NFile := [⟨[99], [122]⟩, ⟨[98], [121]⟩]
def two : Man := ⟨1, 0, 9, [⟨[97], sha [120]⟩, ⟨[98], sha [121]⟩]⟩
theorem num_enc {t : UInt8} {v : Nat} (b : UInt8) (h : be v = [b]) : (numO t v).enc = [t, 1, b] := by
  rw [numO, h, enc_mk, encL_nil]; rfl
theorem man1_check : check man1 = 0 := by kernel_rfl
theorem man1_o : (manO man1).enc = ten := by
  have h0 : manO man1 = .mk 128 [] [numO 1 1, numO 2 0, numO 3 9] := rfl
  have e1 : (numO 1 1).enc = [1, 1, 1] := num_enc 1 (by decide)
  have e2 : (numO 2 0).enc = [2, 0] := by
    have : be 0 = [] := by decide
    rw [numO, this, enc_mk, encL_nil]; rfl
  have e3 : (numO 3 9).enc = [3, 1, 9] := num_enc 9 (by decide)
  rw [h0, enc_mk, encL_cons, encL_cons, encL_cons, encL_nil, e1, e2, e3]
  rfl
theorem man1_enc : manEnc man1 = (ten, 0) := by
  have h := man1_check
  have hk := manO_check (m := man1) h (by decide)
  unfold manEnc
  rw [if_neg (by rw [h]; decide), if_pos hk, man1_o]
theorem ten_dec : decR ten = .tup [man1.av .no, .int .i64 0] := by
  have h := dec_enc (m := man1) man1_check (by decide) (by decide)
  rw [man1_o] at h
  unfold decR
  rw [h]
  rfl
theorem heq_refl (f : File) : heq f f = true := eqAL_refl _ (hash_int f)
theorem two_make : makeM 1 0 9 exFs = two ∧ makeE 0 9 exFs = 0 := by
  have h0 : makeE 0 9 exFs = 0 := by kernel_rfl
  have hs : sortB (names exFs) = [[97], [98]] := (sortB_unique (xs := [[97], [98]]) (List.Perm.swap _ _ _) (by decide)).symm
  refine ⟨?_, h0⟩
  rw [makeM, if_pos h0, makeFs, hs]
  rfl
theorem two_match : matchR two exGs = ⟨[[97]], [], [[99]]⟩ ∧ matchE two exGs = 0 := by
  have h0 : matchE two exGs = 0 := by kernel_rfl
  refine ⟨?_, h0⟩
  have h1 : fnames (two.fs.filter (missF exGs)) = [[97]] := by kernel_rfl
  have h2 : fnames (two.fs.filter (wrongF exGs)) = [] := by
    have e1 : wrongF exGs ⟨[97], sha [120]⟩ = false := by rfl
    have e2 : wrongF exGs ⟨[98], sha [121]⟩ = false := by
      have : hashOf exGs [98] = ⟨[98], sha [121]⟩ := rfl
      rw [wrongF, this, heq_refl]; rfl
    show fnames (List.filter (wrongF exGs) [⟨[97], sha [120]⟩, ⟨[98], sha [121]⟩]) = []
    rw [List.filter_cons, if_neg (by rw [e1]; decide), List.filter_cons, if_neg (by rw [e2]; decide)]; rfl
  have h3 : sortB ((names exGs).filter fun k => !(fnames two.fs).contains k) = [[99]] := by
    have : ((names exGs).filter fun k => !(fnames two.fs).contains k) = [[99]] := by kernel_rfl
    rw [this]
    exact (sortB_unique (xs := [[99]]) (List.Perm.refl _) (by decide)).symm
  rw [matchR, if_pos h0, h1, h2, h3]

theorem zz : ¬ (((0 : Int) == 0) = false) := by decide
theorem alive_A (H : List AObj) : CallsA E 20 [] H (Is H (.bool true)) := by
  have hE : ∀ H, CallsA E 21 [.agg [.int .u64 1, .int .i64 0, .int .i64 9, .sl .full 0 []]] H (Is H (.tup [.sl .no 1 (ten.map byteRow), .int .i64 0])) := fun H => by
    have := manEncode_A man1 H (by decide) (by decide) (by decide)
    rw [man1_enc] at this
    exact CallsA.subL (vs := [man1.av .no]) ⟨Sub.agg (vs := [.int .u64 1, .int .i64 0, .int .i64 9, .sl .no 33 []]) ⟨Sub.refl _, Sub.refl _, Sub.refl _, Sub.empty, trivial⟩, trivial⟩ this
  have hD : ∀ H, CallsA E 22 [.sl .full 1 (ten.map byteRow)] H (Is H (.tup [man1.av .no, .int .i64 0])) := fun H => by
    have := manDecode_A ten H (by decide)
    rw [ten_dec] at this
    exact CallsA.subL (vs := [.sl .no 1 (ten.map byteRow)]) ⟨Sub.untag, trivial⟩ this
  have hF := fun (n b : List UInt8) H (hb : b.length ≤ 140737488355328) => file_A n b H hb
  have hM : ∀ H, CallsA E 13 [.int .u64 1, .agg [.int .i64 0, .int .i64 9], .sl .full 2 (nrows exFs)] H (Is H (.tup [two.av .no, .int .i64 0])) := fun H => by
    have := make_A 1 0 9 exFs H (by decide) (by decide)
    rw [two_make.1, two_make.2] at this
    exact CallsA.subL (vs := [.int .u64 1, .agg [.int .i64 0, .int .i64 9], .sl .no 2 (nrows exFs)]) ⟨Sub.refl _, Sub.refl _, Sub.untag, trivial⟩ this
  have hR : ∀ H, CallsA E 15 [two.av .no, .sl .full 2 (nrows exGs)] H (Is H (.tup [Rep.av ⟨[[97]], [], [[99]]⟩, .int .i64 0])) := fun H => by
    have := match_A two exGs H (by decide) (by decide) (by decide)
    rw [two_match.1, two_match.2] at this
    exact CallsA.subL (vs := [two.av .no, .sl .no 2 (nrows exGs)]) ⟨Sub.refl _, Sub.untag, trivial⟩ this
  have hB : ∀ H, CallsA E 24 [.sl .no 1 (ten.map byteRow), .sl .full 1 (ten.map byteRow)] H (Is H (.bool true)) := fun H => by
    have := sameBytes_A ten ten .no .full H (by decide)
    simpa using this
  have hS : ∀ H, CallsA E 17 [man1.av .no, .agg [.int .u64 1, .int .i64 0, .int .i64 9, .sl .full 0 []]] H (Is H (.bool true)) := fun H => by
    have := refSame_A man1 man1 H (by decide)
    rw [same_refl] at this
    exact CallsA.subL (vs := [man1.av .no, man1.av .no]) ⟨Sub.refl _, Sub.agg (vs := [.int .u64 1, .int .i64 0, .int .i64 9, .sl .no 33 []]) ⟨Sub.refl _, Sub.refl _, Sub.refl _, Sub.empty, trivial⟩, trivial⟩ this
  have hP : ∀ H, CallsA E 18 [Rep.av ⟨[[97]], [], [[99]]⟩, .agg [.sl .full 1 (strs [[97]]), .sl .full 0 [], .sl .full 1 (strs [[99]])]] H (Is H (.bool true)) := fun H => by
    have := sameReport_A ⟨[[97]], [], [[99]]⟩ ⟨[[97]], [], [[99]]⟩ H (by decide) (by decide) (by decide)
    have e : sameRep ⟨[[97]], [], [[99]]⟩ ⟨[[97]], [], [[99]]⟩ = true := by decide
    rw [e] at this
    exact CallsA.subL (vs := [Rep.av ⟨[[97]], [], [[99]]⟩, Rep.av ⟨[[97]], [], [[99]]⟩]) ⟨Sub.refl _, Sub.agg (vs := [.sl .no 1 (strs [[97]]), .sl .no 1 (strs []), .sl .no 1 (strs [[99]])]) ⟨Sub.untag, Sub.empty, Sub.untag, trivial⟩, trivial⟩ this
  refine .enter Tryd.func20 rfl rfl rfl 84 Tryd.ntmps20 (Nat.le_of_ble_eq_true rfl) ?_
  repeat' first
    | exact absurd (by assumption) zz
    | refine WpA.drawI [H.length + 1] [4, 0, 0, 0, 0, 0, 0, 0, 3, 2, 0] (by kernel_rfl) (by kernel_rfl) ?_
    | refine WpA.seq ?_
    | refine WpA.region ?_
    | refine WpOps.op _ rfl rfl rfl rfl rfl ?_
    | refine WpOps.box _ rfl rfl rfl rfl rfl ?_
    | refine WpOps.alloc _ rfl rfl rfl rfl rfl rfl ?_
    | refine WpOps.store rfl rfl rfl rfl rfl rfl rfl rfl rfl rfl ?_
    | refine WpOps.skip rfl rfl rfl ?_
    | refine WpOps.build _ rfl rfl rfl rfl rfl ?_
    | refine WpOps.sh _ rfl rfl rfl rfl rfl ?_
    | (refine WpOps.call rfl rfl rfl rfl rfl (by exact hE _) ?_; rintro _ _ ⟨rfl, rfl⟩)
    | (refine WpOps.call rfl rfl rfl rfl rfl (by exact hD _) ?_; rintro _ _ ⟨rfl, rfl⟩)
    | (refine WpOps.call rfl rfl rfl rfl rfl (by exact hF _ _ _ (by decide)) ?_; rintro _ _ ⟨rfl, rfl⟩)
    | (refine WpOps.call rfl rfl rfl rfl rfl (by exact hM _) ?_; rintro _ _ ⟨rfl, rfl⟩)
    | (refine WpOps.call rfl rfl rfl rfl rfl (by exact hR _) ?_; rintro _ _ ⟨rfl, rfl⟩)
    | (refine WpOps.call rfl rfl rfl rfl rfl (by exact hB _) ?_; rintro _ _ ⟨rfl, rfl⟩)
    | (refine WpOps.call rfl rfl rfl rfl rfl (by exact hS _) ?_; rintro _ _ ⟨rfl, rfl⟩)
    | (refine WpOps.call rfl rfl rfl rfl rfl (by exact hP _) ?_; rintro _ _ ⟨rfl, rfl⟩)
    | (refine WpOps.buildSlice _ rfl rfl rfl rfl rfl rfl rfl rfl rfl rfl rfl ?_)
    | (refine LexA.buildSlice _ rfl rfl rfl rfl rfl rfl rfl rfl rfl rfl rfl ?_)
    | (refine WpOps.elem (File.row ⟨[97], sha [120]⟩) rfl rfl rfl rfl rfl rfl rfl rfl rfl (by decide) rfl ?_)
    | refine WpOps.gsplit _ rfl rfl rfl (fun h => ?_) (fun h => ?_)
    | refine WpA.block ?_
    | refine WpA.exit ?_
    | refine WpOps.nil ?_
    | refine WpA.ret ?_
    | refine WpA.skip ?_
    | refine WpA.condT rfl ?_
    | refine WpA.condF rfl ?_
    | refine WpA.cond _ rfl (fun h => ?_) (fun h => ?_)
    | refine WpA.draw (by kernel_rfl) ?_
    | refine LexA.op _ rfl rfl rfl rfl rfl ?_
    | refine LexA.skip rfl rfl rfl ?_
    | refine LexA.build _ rfl rfl rfl rfl rfl ?_
    | refine LexA.sh _ rfl rfl rfl rfl rfl ?_
    | refine LexA.call rfl rfl rfl rfl rfl (by exact hE _) ?_
    | refine LexA.call rfl rfl rfl rfl rfl (by exact hD _) ?_
    | refine LexA.call rfl rfl rfl rfl rfl (by exact hF _ _ _ (by decide)) ?_
    | refine LexA.call rfl rfl rfl rfl rfl (by exact hM _) ?_
    | refine LexA.call rfl rfl rfl rfl rfl (by exact hR _) ?_
    | refine LexA.call rfl rfl rfl rfl rfl (by exact hB _) ?_
    | refine LexA.call rfl rfl rfl rfl rfl (by exact hS _) ?_
    | refine LexA.call rfl rfl rfl rfl rfl (by exact hP _) ?_
    | refine LexA.gsplit _ rfl rfl rfl (fun h => ?_) (fun h => ?_)
    | refine LexA.nil ?_

  repeat' first
    | exact absurd (by assumption) zz
    | refine WpA.seq ?_
    | refine WpA.region ?_
    | refine WpOps.op _ rfl rfl rfl rfl rfl ?_
    | refine WpOps.box _ rfl rfl rfl rfl rfl ?_
    | refine WpOps.alloc _ rfl rfl rfl rfl rfl rfl ?_
    | refine WpOps.store rfl rfl rfl rfl rfl rfl rfl rfl rfl rfl ?_
    | refine WpOps.skip rfl rfl rfl ?_
    | refine WpOps.build _ rfl rfl rfl rfl rfl ?_
    | refine WpOps.sh _ rfl rfl rfl rfl rfl ?_
    | (refine WpOps.call rfl rfl rfl rfl rfl (by exact hE _) ?_; rintro _ _ ⟨rfl, rfl⟩)
    | (refine WpOps.call rfl rfl rfl rfl rfl (by exact hD _) ?_; rintro _ _ ⟨rfl, rfl⟩)
    | (refine WpOps.call rfl rfl rfl rfl rfl (by exact hF _ _ _ (by decide)) ?_; rintro _ _ ⟨rfl, rfl⟩)
    | (refine WpOps.call rfl rfl rfl rfl rfl (by exact hM _) ?_; rintro _ _ ⟨rfl, rfl⟩)
    | (refine WpOps.call rfl rfl rfl rfl rfl (by exact hR _) ?_; rintro _ _ ⟨rfl, rfl⟩)
    | (refine WpOps.call rfl rfl rfl rfl rfl (by exact hB _) ?_; rintro _ _ ⟨rfl, rfl⟩)
    | (refine WpOps.call rfl rfl rfl rfl rfl (by exact hS _) ?_; rintro _ _ ⟨rfl, rfl⟩)
    | (refine WpOps.call rfl rfl rfl rfl rfl (by exact hP _) ?_; rintro _ _ ⟨rfl, rfl⟩)
    | (refine LexH.alloc3 _ rfl rfl rfl rfl rfl rfl rfl ?_)
    | refine WpOps.gsplit _ rfl rfl rfl (fun h => ?_) (fun h => ?_)
    | refine WpA.block ?_
    | refine WpA.exit ?_
    | refine WpOps.nil ?_
    | refine WpA.ret ?_
    | refine WpA.skip ?_
    | refine WpA.condT rfl ?_
    | refine WpA.condF rfl ?_
    | refine WpA.cond _ rfl (fun h => ?_) (fun h => ?_)
    | refine LexH.op0 _ rfl rfl rfl rfl rfl (fun _ => rfl) ?_
    | refine LexH.op1 _ rfl rfl rfl rfl rfl rfl ?_
    | refine LexH.load4 _ rfl rfl rfl rfl rfl rfl (by simp) rfl rfl rfl rfl ?_
    | refine LexH.skip rfl rfl rfl ?_
    | refine LexH.build _ rfl rfl rfl rfl rfl rfl ?_
    | refine LexH.buildSlice _ rfl rfl rfl rfl rfl rfl rfl rfl rfl rfl rfl rfl ?_
    | refine LexH.store rfl rfl rfl rfl rfl rfl rfl rfl rfl rfl rfl ?_
    | refine LexH.sh _ rfl rfl rfl rfl rfl rfl ?_
    | refine LexH.call rfl rfl rfl rfl rfl rfl (by exact hE _) ?_
    | refine LexH.call0 rfl rfl rfl rfl rfl rfl (fun _ => by exact hE _) ?_
    | refine LexH.call rfl rfl rfl rfl rfl rfl (by exact hD _) ?_
    | refine LexH.call0 rfl rfl rfl rfl rfl rfl (fun _ => by exact hD _) ?_
    | refine LexH.call rfl rfl rfl rfl rfl rfl (by exact hF _ _ _ (by decide)) ?_
    | refine LexH.call0 rfl rfl rfl rfl rfl rfl (fun _ => by exact hF _ _ _ (by decide)) ?_
    | refine LexH.call rfl rfl rfl rfl rfl rfl (by exact hM _) ?_
    | refine LexH.call0 rfl rfl rfl rfl rfl rfl (fun _ => by exact hM _) ?_
    | refine LexH.call rfl rfl rfl rfl rfl rfl (by exact hR _) ?_
    | refine LexH.call0 rfl rfl rfl rfl rfl rfl (fun _ => by exact hR _) ?_
    | refine LexH.call rfl rfl rfl rfl rfl rfl (by exact hB _) ?_
    | refine LexH.call0 rfl rfl rfl rfl rfl rfl (fun _ => by exact hB _) ?_
    | refine LexH.call rfl rfl rfl rfl rfl rfl (by exact hS _) ?_
    | refine LexH.call0 rfl rfl rfl rfl rfl rfl (fun _ => by exact hS _) ?_
    | refine LexH.call rfl rfl rfl rfl rfl rfl (by exact hP _) ?_
    | refine LexH.call0 rfl rfl rfl rfl rfl rfl (fun _ => by exact hP _) ?_
    | refine LexH.gsplit _ rfl rfl rfl (fun h => ?_) (fun h => ?_)
    | refine LexH.nil ?_

  repeat' first
    | exact absurd (by assumption) zz
    | (refine WpOps.buildSlice (len := 10) (ten.map u8) rfl rfl rfl rfl rfl rfl (by kernel_rfl) (by kernel_rfl) rfl rfl rfl ?_)
    | refine WpA.seq ?_
    | refine WpA.region ?_
    | refine WpOps.op _ rfl rfl rfl rfl rfl ?_
    | refine WpOps.box _ rfl rfl rfl rfl rfl ?_
    | refine WpOps.alloc _ rfl rfl rfl rfl rfl rfl ?_
    | refine WpOps.store rfl rfl rfl rfl rfl rfl rfl rfl rfl rfl ?_
    | refine WpOps.skip rfl rfl rfl ?_
    | refine WpOps.build _ rfl rfl rfl rfl rfl ?_
    | refine WpOps.sh _ rfl rfl rfl rfl rfl ?_
    | (refine WpOps.call rfl rfl rfl rfl rfl (by exact hE _) ?_; rintro _ _ ⟨rfl, rfl⟩)
    | (refine WpOps.call rfl rfl rfl rfl rfl (by exact hD _) ?_; rintro _ _ ⟨rfl, rfl⟩)
    | (refine WpOps.call rfl rfl rfl rfl rfl (by exact hF _ _ _ (by decide)) ?_; rintro _ _ ⟨rfl, rfl⟩)
    | (refine WpOps.call rfl rfl rfl rfl rfl (by exact hM _) ?_; rintro _ _ ⟨rfl, rfl⟩)
    | (refine WpOps.call rfl rfl rfl rfl rfl (by exact hR _) ?_; rintro _ _ ⟨rfl, rfl⟩)
    | (refine WpOps.call rfl rfl rfl rfl rfl (by exact hB _) ?_; rintro _ _ ⟨rfl, rfl⟩)
    | (refine WpOps.call rfl rfl rfl rfl rfl (by exact hS _) ?_; rintro _ _ ⟨rfl, rfl⟩)
    | (refine WpOps.call rfl rfl rfl rfl rfl (by exact hP _) ?_; rintro _ _ ⟨rfl, rfl⟩)
    | (refine WpOps.buildSlice _ rfl rfl rfl rfl rfl rfl rfl rfl rfl rfl rfl ?_)
    | (refine LexA.buildSlice _ rfl rfl rfl rfl rfl rfl rfl rfl rfl rfl rfl ?_)
    | (refine WpOps.elem (File.row ⟨[97], sha [120]⟩) rfl rfl rfl rfl rfl rfl rfl rfl rfl (by decide) rfl ?_)
    | refine WpOps.gsplit _ rfl rfl rfl (fun h => ?_) (fun h => ?_)
    | refine WpA.block ?_
    | refine WpA.exit ?_
    | refine WpOps.nil ?_
    | refine WpA.ret ?_
    | refine WpA.skip ?_
    | refine WpA.condT rfl ?_
    | refine WpA.condF rfl ?_
    | refine WpA.cond _ rfl (fun h => ?_) (fun h => ?_)
    | refine WpA.draw (by kernel_rfl) ?_
    | refine LexA.op _ rfl rfl rfl rfl rfl ?_
    | refine LexA.skip rfl rfl rfl ?_
    | refine LexA.build _ rfl rfl rfl rfl rfl ?_
    | refine LexA.sh _ rfl rfl rfl rfl rfl ?_
    | refine LexA.call rfl rfl rfl rfl rfl (by exact hE _) ?_
    | refine LexA.call rfl rfl rfl rfl rfl (by exact hD _) ?_
    | refine LexA.call rfl rfl rfl rfl rfl (by exact hF _ _ _ (by decide)) ?_
    | refine LexA.call rfl rfl rfl rfl rfl (by exact hM _) ?_
    | refine LexA.call rfl rfl rfl rfl rfl (by exact hR _) ?_
    | refine LexA.call rfl rfl rfl rfl rfl (by exact hB _) ?_
    | refine LexA.call rfl rfl rfl rfl rfl (by exact hS _) ?_
    | refine LexA.call rfl rfl rfl rfl rfl (by exact hP _) ?_
    | refine LexA.gsplit _ rfl rfl rfl (fun h => ?_) (fun h => ?_)
    | refine LexA.nil ?_
  exact retK.ok («as» := [.bool true]) (by kernel_rfl) (by kernel_rfl) rfl .bool
end Go.Gp.Tryd

/- The law ManifestCodes: its walk. -/
namespace Go.Gp.Tryd
open Go.Proofs
set_option linter.unusedVariables false
set_option linter.unusedSimpArgs false
set_option maxHeartbeats 4000000
set_option maxRecDepth 100000

theorem enc_both {m : Man} (hv0 : 0 ≤ m.v) (hv1 : m.v < 18446744073709551616) : manEnc m = ((if check m ≠ 0 then [] else (manO m).enc), check m) := by
  unfold manEnc
  by_cases hc : check m = 0
  · have hn : ¬ check m ≠ 0 := by simpa using hc
    rw [if_neg hn, if_neg hn, if_pos (manO_check hc (by omega)), hc]
  · rw [if_pos hc, if_pos hc]

end Go.Gp.Tryd

/- The law ManifestBack: its walk. -/
namespace Go.Gp.Tryd
open Go.Proofs
set_option linter.unusedVariables false
set_option linter.unusedSimpArgs false
set_option maxHeartbeats 4000000
set_option maxRecDepth 100000

theorem decEnc_A (m : Man) (H : List AObj) (hc : check m = 0) (hv0 : 0 ≤ m.v) (hv1 : m.v < 18446744073709551616) :
    CallsA E 22 [.sl .no 1 ((manO m).enc.map byteRow)] H (Is H (.tup [m.av .no, .int .i64 0])) := by
  have hl : (manO m).enc.length ≤ 60000 := by rw [enc_length]; exact manO_small hc (by omega)
  have h := manDecode_A (manO m).enc H (by omega)
  have e : decR (manO m).enc = .tup [m.av .no, .int .i64 0] := by
    unfold decR
    rw [dec_enc hc hv0 hv1, ← cm_av m .no]
  rw [e] at h
  exact h
theorem encOk_A (m : Man) (H : List AObj) (hc : check m = 0) (hv0 : 0 ≤ m.v) (hv1 : m.v < 18446744073709551616) :
    CallsA E 21 [m.av .no] H (Is H (.tup [.sl .no 1 ((manO m).enc.map byteRow), .int .i64 0])) := by
  have h := manEncode_A m H (by have := (check_good hc).1; omega) hv0 hv1
  have e : manEnc m = ((manO m).enc, 0) := by
    rw [enc_both hv0 hv1, if_neg (by simpa using hc), hc]
  rw [e] at h
  exact h
theorem encNo_A (m : Man) (H : List AObj) (hb : m.fs.length ≤ 1000000000000000) (hc : check m ≠ 0) (hv0 : 0 ≤ m.v) (hv1 : m.v < 18446744073709551616) :
    CallsA E 21 [m.av .no] H (Is H (.tup [.sl .no 1 [], .int .i64 (check m)])) := by
  have h := manEncode_A m H hb hv0 hv1
  have e : manEnc m = ([], check m) := by rw [enc_both hv0 hv1, if_pos hc]
  rw [e] at h
  exact h
theorem zeroS_A (H : List AObj) : CallsA E 17 [zeroMan.av .no, .agg [.int .u64 0, .int .i64 0, .int .i64 0, .sl .full 0 []]] H (Is H (.bool true)) := by
  have := refSame_A zeroMan zeroMan H (by decide)
  rw [same_refl] at this
  exact CallsA.subL (vs := [zeroMan.av .no, zeroMan.av .no]) ⟨Sub.refl _, zeroMan_sub, trivial⟩ this

theorem back_A (m : Man) (b : List UInt8) (H : List AObj) (hb : m.fs.length ≤ 1000000000000000) (hbl : b.length ≤ 140737488355328) (hv0 : 0 ≤ m.v) (hv1 : m.v < 18446744073709551616) :
    CallsA E 4 [m.av .no, .sl .no 1 (b.map byteRow)] H (Is H (.bool true)) := by
  have hlen : (b.map byteRow).length = b.length := List.length_map _
  have hG := fun H => great_A m .no H hb
  have hA := fun H => alive_A H
  refine .enter Tryd.func4 rfl rfl rfl 88 Tryd.ntmps4 (Nat.le_of_ble_eq_true rfl) ?_
  cases hg : great m with
  | true =>
    rw [hg] at hG
    repeat' first
      | refine WpA.seq ?_
      | refine WpA.region ?_
      | refine WpOps.op _ rfl rfl rfl rfl rfl ?_
      | refine WpOps.box _ rfl rfl rfl rfl rfl ?_
      | refine WpOps.alloc _ rfl rfl rfl rfl rfl rfl ?_
      | refine WpOps.store rfl rfl rfl rfl rfl rfl rfl rfl rfl rfl ?_
      | refine WpOps.skip rfl rfl rfl ?_
      | refine WpOps.build _ rfl rfl rfl rfl rfl ?_
      | refine WpOps.sh _ rfl rfl rfl rfl rfl ?_
      | (refine WpOps.call rfl rfl rfl rfl rfl (by exact hA _) ?_; rintro _ _ ⟨rfl, rfl⟩)
      | (refine WpOps.call rfl rfl rfl rfl rfl (by exact hG _) ?_; rintro _ _ ⟨rfl, rfl⟩)
      | refine WpOps.gsplit _ rfl rfl rfl (fun h => ?_) (fun h => ?_)
      | refine WpA.block ?_
      | refine WpA.exit ?_
      | refine WpOps.nil ?_
      | refine WpA.ret ?_
      | refine WpA.skip ?_
      | refine WpA.condT rfl ?_
      | refine WpA.condF rfl ?_
      | refine WpA.cond _ rfl (fun h => ?_) (fun h => ?_)
      | refine WpA.draw (by kernel_rfl) ?_
      | refine LexA.op _ rfl rfl rfl rfl rfl ?_
      | refine LexA.skip rfl rfl rfl ?_
      | refine LexA.build _ rfl rfl rfl rfl rfl ?_
      | refine LexA.sh _ rfl rfl rfl rfl rfl ?_
      | refine LexA.call rfl rfl rfl rfl rfl (by exact hA _) ?_
      | refine LexA.call rfl rfl rfl rfl rfl (by exact hG _) ?_
      | refine LexA.gsplit _ rfl rfl rfl (fun h => ?_) (fun h => ?_)
      | refine LexA.nil ?_
    all_goals exact retK.ok («as» := [.bool true]) (by kernel_rfl) (by kernel_rfl) rfl .bool
  | false =>
    rw [hg] at hG
    repeat' first
      | refine WpA.seq ?_
      | refine WpA.region ?_
      | refine WpOps.op _ rfl rfl rfl rfl rfl ?_
      | refine WpOps.box _ rfl rfl rfl rfl rfl ?_
      | refine WpOps.alloc _ rfl rfl rfl rfl rfl rfl ?_
      | refine WpOps.store rfl rfl rfl rfl rfl rfl rfl rfl rfl rfl ?_
      | refine WpOps.skip rfl rfl rfl ?_
      | refine WpOps.build _ rfl rfl rfl rfl rfl ?_
      | refine WpOps.sh _ rfl rfl rfl rfl rfl ?_
      | (refine WpOps.call rfl rfl rfl rfl rfl (by exact hA _) ?_; rintro _ _ ⟨rfl, rfl⟩)
      | (refine WpOps.call rfl rfl rfl rfl rfl (by exact hG _) ?_; rintro _ _ ⟨rfl, rfl⟩)
      | refine WpOps.gsplit _ rfl rfl rfl (fun h => ?_) (fun h => ?_)
      | refine WpA.block ?_
      | refine WpA.exit ?_
      | refine WpOps.nil ?_
      | refine WpA.ret ?_
      | refine WpA.skip ?_
      | refine WpA.condT rfl ?_
      | refine WpA.condF rfl ?_
      | refine WpA.cond _ rfl (fun h => ?_) (fun h => ?_)
      | refine WpA.draw (by kernel_rfl) ?_
      | refine LexA.op _ rfl rfl rfl rfl rfl ?_
      | refine LexA.skip rfl rfl rfl ?_
      | refine LexA.build _ rfl rfl rfl rfl rfl ?_
      | refine LexA.sh _ rfl rfl rfl rfl rfl ?_
      | refine LexA.call rfl rfl rfl rfl rfl (by exact hA _) ?_
      | refine LexA.call rfl rfl rfl rfl rfl (by exact hG _) ?_
      | refine LexA.gsplit _ rfl rfl rfl (fun h => ?_) (fun h => ?_)
      | refine LexA.nil ?_
    · exact retK.ok rfl rfl rfl .bool
    have h1 := of_decide_eq_false h
    have hbs : b.length ≤ 20000 := by omega
    clear h h1
    have hS := fun H => refSame_A m m H hb
    rw [same_refl] at hS
    have hD := fun H => manDecode_A b H (by omega)
    have hB := fun H => sameBytes_A b b .no .no H (by omega)
    have hbe : (b == b) = true := by simp
    rw [hbe] at hB
    have hZ := fun H => zeroS_A H
    by_cases hc : check m = 0
    · have hE := fun H => encOk_A m H hc hv0 hv1
      have hD1 := fun H => decEnc_A m H hc hv0 hv1
      cases hd : decMan b with
      | none =>
        have e : decR b = .tup [zeroMan.av .no, .int .i64 12] := by unfold decR; rw [hd]
        rw [e] at hD
        repeat' first
          | exact absurd (by assumption) zz
          | refine WpA.seq ?_
          | refine WpA.region ?_
          | refine WpOps.op _ rfl rfl rfl rfl rfl ?_
          | refine WpOps.box _ rfl rfl rfl rfl rfl ?_
          | refine WpOps.alloc _ rfl rfl rfl rfl rfl rfl ?_
          | refine WpOps.store rfl rfl rfl rfl rfl rfl rfl rfl rfl rfl ?_
          | refine WpOps.skip rfl rfl rfl ?_
          | refine WpOps.build _ rfl rfl rfl rfl rfl ?_
          | refine WpOps.sh _ rfl rfl rfl rfl rfl ?_
          | (refine WpOps.call rfl rfl rfl rfl rfl (by exact hE _) ?_; rintro _ _ ⟨rfl, rfl⟩)
          | (refine WpOps.call rfl rfl rfl rfl rfl (by exact hD1 _) ?_; rintro _ _ ⟨rfl, rfl⟩)
          | (refine WpOps.call rfl rfl rfl rfl rfl (by exact hS _) ?_; rintro _ _ ⟨rfl, rfl⟩)
          | (refine WpOps.call rfl rfl rfl rfl rfl (by exact hD _) ?_; rintro _ _ ⟨rfl, rfl⟩)
          | (refine WpOps.call rfl rfl rfl rfl rfl (by exact hZ _) ?_; rintro _ _ ⟨rfl, rfl⟩)
          | refine WpOps.gsplit _ rfl rfl rfl (fun h => ?_) (fun h => ?_)
          | refine WpA.block ?_
          | refine WpA.exit ?_
          | refine WpOps.nil ?_
          | refine WpA.ret ?_
          | refine WpA.skip ?_
          | refine WpA.condT rfl ?_
          | refine WpA.condF rfl ?_
          | refine WpA.cond _ rfl (fun h => ?_) (fun h => ?_)
          | refine WpA.draw (by kernel_rfl) ?_
          | refine LexA.op _ rfl rfl rfl rfl rfl ?_
          | refine LexA.skip rfl rfl rfl ?_
          | refine LexA.build _ rfl rfl rfl rfl rfl ?_
          | refine LexA.sh _ rfl rfl rfl rfl rfl ?_
          | refine LexA.call rfl rfl rfl rfl rfl (by exact hE _) ?_
          | refine LexA.call rfl rfl rfl rfl rfl (by exact hD1 _) ?_
          | refine LexA.call rfl rfl rfl rfl rfl (by exact hS _) ?_
          | refine LexA.call rfl rfl rfl rfl rfl (by exact hD _) ?_
          | refine LexA.call rfl rfl rfl rfl rfl (by exact hZ _) ?_
          | refine LexA.gsplit _ rfl rfl rfl (fun h => ?_) (fun h => ?_)
          | refine LexA.nil ?_
        all_goals exact retK.ok («as» := [.bool true]) (by kernel_rfl) (by kernel_rfl) rfl .bool
      | some m2 =>
        have e : decR b = .tup [m2.av .no, .int .i64 0] := by unfold decR; rw [hd]
        obtain ⟨k1, k2, k3, k4⟩ := enc_dec hd
        have hE2 := fun H => encOk_A m2 H k1 k3 k4
        rw [k2] at hE2
        rw [e] at hD
        repeat' first
          | exact absurd (by assumption) zz
          | refine WpA.seq ?_
          | refine WpA.region ?_
          | refine WpOps.op _ rfl rfl rfl rfl rfl ?_
          | refine WpOps.box _ rfl rfl rfl rfl rfl ?_
          | refine WpOps.alloc _ rfl rfl rfl rfl rfl rfl ?_
          | refine WpOps.store rfl rfl rfl rfl rfl rfl rfl rfl rfl rfl ?_
          | refine WpOps.skip rfl rfl rfl ?_
          | refine WpOps.build _ rfl rfl rfl rfl rfl ?_
          | refine WpOps.sh _ rfl rfl rfl rfl rfl ?_
          | (refine WpOps.call rfl rfl rfl rfl rfl (by exact hE _) ?_; rintro _ _ ⟨rfl, rfl⟩)
          | (refine WpOps.call rfl rfl rfl rfl rfl (by exact hD1 _) ?_; rintro _ _ ⟨rfl, rfl⟩)
          | (refine WpOps.call rfl rfl rfl rfl rfl (by exact hS _) ?_; rintro _ _ ⟨rfl, rfl⟩)
          | (refine WpOps.call rfl rfl rfl rfl rfl (by exact hD _) ?_; rintro _ _ ⟨rfl, rfl⟩)
          | (refine WpOps.call rfl rfl rfl rfl rfl (by exact hE2 _) ?_; rintro _ _ ⟨rfl, rfl⟩)
          | (refine WpOps.call rfl rfl rfl rfl rfl (by exact hB _) ?_; rintro _ _ ⟨rfl, rfl⟩)
          | refine WpOps.gsplit _ rfl rfl rfl (fun h => ?_) (fun h => ?_)
          | refine WpA.block ?_
          | refine WpA.exit ?_
          | refine WpOps.nil ?_
          | refine WpA.ret ?_
          | refine WpA.skip ?_
          | refine WpA.condT rfl ?_
          | refine WpA.condF rfl ?_
          | refine WpA.cond _ rfl (fun h => ?_) (fun h => ?_)
          | refine WpA.draw (by kernel_rfl) ?_
          | refine LexA.op _ rfl rfl rfl rfl rfl ?_
          | refine LexA.skip rfl rfl rfl ?_
          | refine LexA.build _ rfl rfl rfl rfl rfl ?_
          | refine LexA.sh _ rfl rfl rfl rfl rfl ?_
          | refine LexA.call rfl rfl rfl rfl rfl (by exact hE _) ?_
          | refine LexA.call rfl rfl rfl rfl rfl (by exact hD1 _) ?_
          | refine LexA.call rfl rfl rfl rfl rfl (by exact hS _) ?_
          | refine LexA.call rfl rfl rfl rfl rfl (by exact hD _) ?_
          | refine LexA.call rfl rfl rfl rfl rfl (by exact hE2 _) ?_
          | refine LexA.call rfl rfl rfl rfl rfl (by exact hB _) ?_
          | refine LexA.gsplit _ rfl rfl rfl (fun h => ?_) (fun h => ?_)
          | refine LexA.nil ?_
        all_goals exact retK.ok («as» := [.bool true]) (by kernel_rfl) (by kernel_rfl) rfl .bool
    · have hE := fun H => encNo_A m H hb hc hv0 hv1
      have hK := fun H => Check_A m H hb
      obtain ⟨c, hcc⟩ : ∃ c, check m = c := ⟨_, rfl⟩
      rw [hcc] at hE hK hc
      have z1 : ¬ ((c == 0) = true) := by simpa using hc
      have z2 : ¬ ((c != c) = true) := by simp
      cases hd : decMan b with
      | none =>
        have e : decR b = .tup [zeroMan.av .no, .int .i64 12] := by unfold decR; rw [hd]
        rw [e] at hD
        repeat' first
          | exact absurd (by assumption) zz
          | exact absurd (by assumption) z1
          | exact absurd (by assumption) z2
          | refine WpA.seq ?_
          | refine WpA.region ?_
          | refine WpOps.op _ rfl rfl rfl rfl rfl ?_
          | refine WpOps.box _ rfl rfl rfl rfl rfl ?_
          | refine WpOps.alloc _ rfl rfl rfl rfl rfl rfl ?_
          | refine WpOps.store rfl rfl rfl rfl rfl rfl rfl rfl rfl rfl ?_
          | refine WpOps.skip rfl rfl rfl ?_
          | refine WpOps.build _ rfl rfl rfl rfl rfl ?_
          | refine WpOps.sh _ rfl rfl rfl rfl rfl ?_
          | (refine WpOps.call rfl rfl rfl rfl rfl (by exact hE _) ?_; rintro _ _ ⟨rfl, rfl⟩)
          | (refine WpOps.call rfl rfl rfl rfl rfl (by exact hK _) ?_; rintro _ _ ⟨rfl, rfl⟩)
          | (refine WpOps.call rfl rfl rfl rfl rfl (by exact hD _) ?_; rintro _ _ ⟨rfl, rfl⟩)
          | (refine WpOps.call rfl rfl rfl rfl rfl (by exact hZ _) ?_; rintro _ _ ⟨rfl, rfl⟩)
          | refine WpOps.gsplit _ rfl rfl rfl (fun h => ?_) (fun h => ?_)
          | refine WpA.block ?_
          | refine WpA.exit ?_
          | refine WpOps.nil ?_
          | refine WpA.ret ?_
          | refine WpA.skip ?_
          | refine WpA.condT rfl ?_
          | refine WpA.condF rfl ?_
          | refine WpA.cond _ rfl (fun h => ?_) (fun h => ?_)
          | refine WpA.draw (by kernel_rfl) ?_
          | refine LexA.op _ rfl rfl rfl rfl rfl ?_
          | refine LexA.skip rfl rfl rfl ?_
          | refine LexA.build _ rfl rfl rfl rfl rfl ?_
          | refine LexA.sh _ rfl rfl rfl rfl rfl ?_
          | refine LexA.call rfl rfl rfl rfl rfl (by exact hE _) ?_
          | refine LexA.call rfl rfl rfl rfl rfl (by exact hK _) ?_
          | refine LexA.call rfl rfl rfl rfl rfl (by exact hD _) ?_
          | refine LexA.call rfl rfl rfl rfl rfl (by exact hZ _) ?_
          | refine LexA.gsplit _ rfl rfl rfl (fun h => ?_) (fun h => ?_)
          | refine LexA.nil ?_
        all_goals exact retK.ok («as» := [.bool true]) (by kernel_rfl) (by kernel_rfl) rfl .bool
      | some m2 =>
        have e : decR b = .tup [m2.av .no, .int .i64 0] := by unfold decR; rw [hd]
        obtain ⟨k1, k2, k3, k4⟩ := enc_dec hd
        have hE2 := fun H => encOk_A m2 H k1 k3 k4
        rw [k2] at hE2
        rw [e] at hD
        repeat' first
          | exact absurd (by assumption) zz
          | exact absurd (by assumption) z1
          | exact absurd (by assumption) z2
          | refine WpA.seq ?_
          | refine WpA.region ?_
          | refine WpOps.op _ rfl rfl rfl rfl rfl ?_
          | refine WpOps.box _ rfl rfl rfl rfl rfl ?_
          | refine WpOps.alloc _ rfl rfl rfl rfl rfl rfl ?_
          | refine WpOps.store rfl rfl rfl rfl rfl rfl rfl rfl rfl rfl ?_
          | refine WpOps.skip rfl rfl rfl ?_
          | refine WpOps.build _ rfl rfl rfl rfl rfl ?_
          | refine WpOps.sh _ rfl rfl rfl rfl rfl ?_
          | (refine WpOps.call rfl rfl rfl rfl rfl (by exact hE _) ?_; rintro _ _ ⟨rfl, rfl⟩)
          | (refine WpOps.call rfl rfl rfl rfl rfl (by exact hK _) ?_; rintro _ _ ⟨rfl, rfl⟩)
          | (refine WpOps.call rfl rfl rfl rfl rfl (by exact hD _) ?_; rintro _ _ ⟨rfl, rfl⟩)
          | (refine WpOps.call rfl rfl rfl rfl rfl (by exact hE2 _) ?_; rintro _ _ ⟨rfl, rfl⟩)
          | (refine WpOps.call rfl rfl rfl rfl rfl (by exact hB _) ?_; rintro _ _ ⟨rfl, rfl⟩)
          | refine WpOps.gsplit _ rfl rfl rfl (fun h => ?_) (fun h => ?_)
          | refine WpA.block ?_
          | refine WpA.exit ?_
          | refine WpOps.nil ?_
          | refine WpA.ret ?_
          | refine WpA.skip ?_
          | refine WpA.condT rfl ?_
          | refine WpA.condF rfl ?_
          | refine WpA.cond _ rfl (fun h => ?_) (fun h => ?_)
          | refine WpA.draw (by kernel_rfl) ?_
          | refine LexA.op _ rfl rfl rfl rfl rfl ?_
          | refine LexA.skip rfl rfl rfl ?_
          | refine LexA.build _ rfl rfl rfl rfl rfl ?_
          | refine LexA.sh _ rfl rfl rfl rfl rfl ?_
          | refine LexA.call rfl rfl rfl rfl rfl (by exact hE _) ?_
          | refine LexA.call rfl rfl rfl rfl rfl (by exact hK _) ?_
          | refine LexA.call rfl rfl rfl rfl rfl (by exact hD _) ?_
          | refine LexA.call rfl rfl rfl rfl rfl (by exact hE2 _) ?_
          | refine LexA.call rfl rfl rfl rfl rfl (by exact hB _) ?_
          | refine LexA.gsplit _ rfl rfl rfl (fun h => ?_) (fun h => ?_)
          | refine LexA.nil ?_
        all_goals exact retK.ok («as» := [.bool true]) (by kernel_rfl) (by kernel_rfl) rfl .bool
end Go.Gp.Tryd
