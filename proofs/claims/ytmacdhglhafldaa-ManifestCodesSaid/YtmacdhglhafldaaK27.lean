/- Part of a proof: GpM1, GpM2 -/
import Derived.Test.YtmacdhglhafldaaK12
import Derived.Test.YtmacdhglhafldaaK22
import Derived.Test.YtmacdhglhafldaaK26

/- The manifest: Encode. -/
namespace Go.Gp.Try
open Go.Proofs
set_option linter.unusedVariables false
set_option linter.unusedSimpArgs false
set_option maxHeartbeats 4000000
set_option maxRecDepth 100000

def orI (a b : Int) : Int := if a = 0 then b else a

theorem Or_A (a b : Int) (H : List AObj) : CallsA E 35 [.sl .full 1 [[.int .i64 a], [.int .i64 b]]] H (Is H (.int .i64 (orI a b))) := by
  refine .enter Try.func35 rfl rfl rfl 18 Try.ntmps35 (Nat.le_of_ble_eq_true rfl) ?_
  repeat' first
    | refine WpA.seq ?_
    | refine WpA.region ?_
    | refine WpOps.op _ rfl rfl rfl rfl rfl ?_
    | refine WpOps.box _ rfl rfl rfl rfl rfl ?_
    | refine WpOps.alloc _ rfl rfl rfl rfl rfl rfl ?_
    | refine WpOps.store rfl rfl rfl rfl rfl rfl rfl rfl rfl rfl ?_
    | refine WpOps.skip rfl rfl rfl ?_
    | refine WpOps.build _ rfl rfl rfl rfl rfl ?_
    | refine WpOps.sh _ rfl rfl rfl rfl rfl ?_
    | refine WpOps.gsplit _ rfl rfl rfl (fun h => ?_) (fun h => ?_)
    | refine WpA.block ?_
    | refine WpA.exit ?_
    | refine WpOps.nil ?_
    | refine WpA.ret ?_
    | refine WpA.skip ?_
    | refine WpA.condT rfl ?_
    | refine WpA.condF rfl ?_
    | refine WpA.cond _ rfl (fun h => ?_) (fun h => ?_)
    | refine WpA.draw (by kernel_rfl) ?_
    | refine LexA.op _ rfl rfl rfl rfl rfl ?_
    | refine LexA.skip rfl rfl rfl ?_
    | refine LexA.build _ rfl rfl rfl rfl rfl ?_
    | refine LexA.sh _ rfl rfl rfl rfl rfl ?_
    | refine LexA.gsplit _ rfl rfl rfl (fun h => ?_) (fun h => ?_)
    | refine LexA.nil ?_
  refine WpA.loopFor 2 (fun i => [(3, .int .i64 0), (6, .sl .full 1 [[.int .i64 a], [.int .i64 b]]), (7, .int .i64 2), (8, .int .i64 (i : Nat))]) (fun _ => H ++ []) (fun i => (1 ≤ i → a = 0) ∧ (2 ≤ i → b = 0)) ⟨by omega, by omega⟩ ⟨rfl, rfl, rfl, rfl, trivial⟩ rfl (fun i hi hok => ?_) (fun hok => ?_)
  · rcases i with _ | _ | i
    · repeat' first
        | refine WpA.seq ?_
        | refine WpA.region ?_
        | refine WpOps.op _ rfl rfl rfl rfl rfl ?_
        | refine WpOps.box _ rfl rfl rfl rfl rfl ?_
        | refine WpOps.alloc _ rfl rfl rfl rfl rfl rfl ?_
        | refine WpOps.store rfl rfl rfl rfl rfl rfl rfl rfl rfl rfl ?_
        | refine WpOps.skip rfl rfl rfl ?_
        | refine WpOps.build _ rfl rfl rfl rfl rfl ?_
        | refine WpOps.sh _ rfl rfl rfl rfl rfl ?_
        | refine WpOps.elem [.int .i64 a] rfl rfl rfl rfl rfl rfl rfl rfl rfl (Int.natCast_nonneg _) rfl ?_
        | refine WpOps.gsplit _ rfl rfl rfl (fun h => ?_) (fun h => ?_)
        | refine WpA.block ?_
        | refine WpA.exit ?_
        | refine WpOps.nil ?_
        | refine WpA.ret ?_
        | refine WpA.skip ?_
        | refine WpA.condT rfl ?_
        | refine WpA.condF rfl ?_
        | refine WpA.cond _ rfl (fun h => ?_) (fun h => ?_)
        | refine WpA.draw (by kernel_rfl) ?_
        | refine LexA.op _ rfl rfl rfl rfl rfl ?_
        | refine LexA.skip rfl rfl rfl ?_
        | refine LexA.build _ rfl rfl rfl rfl rfl ?_
        | refine LexA.sh _ rfl rfl rfl rfl rfl ?_
        | refine LexA.gsplit _ rfl rfl rfl (fun h => ?_) (fun h => ?_)
        | refine LexA.nil ?_
      · refine retK.ok rfl rfl (congrArg (AV.int .i64) ?_) .int
        rw [orI, if_neg]
        simpa using h
      · have ha : a = 0 := by simpa using h
        exact ⟨⟨fun _ => ha, by omega⟩, ⟨rfl, rfl, rfl, rfl, trivial⟩, rfl⟩
    · have ha := hok.1 (Nat.le_refl _)
      repeat' first
        | refine WpA.seq ?_
        | refine WpA.region ?_
        | refine WpOps.op _ rfl rfl rfl rfl rfl ?_
        | refine WpOps.box _ rfl rfl rfl rfl rfl ?_
        | refine WpOps.alloc _ rfl rfl rfl rfl rfl rfl ?_
        | refine WpOps.store rfl rfl rfl rfl rfl rfl rfl rfl rfl rfl ?_
        | refine WpOps.skip rfl rfl rfl ?_
        | refine WpOps.build _ rfl rfl rfl rfl rfl ?_
        | refine WpOps.sh _ rfl rfl rfl rfl rfl ?_
        | refine WpOps.elem [.int .i64 b] rfl rfl rfl rfl rfl rfl rfl rfl rfl (Int.natCast_nonneg _) rfl ?_
        | refine WpOps.gsplit _ rfl rfl rfl (fun h => ?_) (fun h => ?_)
        | refine WpA.block ?_
        | refine WpA.exit ?_
        | refine WpOps.nil ?_
        | refine WpA.ret ?_
        | refine WpA.skip ?_
        | refine WpA.condT rfl ?_
        | refine WpA.condF rfl ?_
        | refine WpA.cond _ rfl (fun h => ?_) (fun h => ?_)
        | refine WpA.draw (by kernel_rfl) ?_
        | refine LexA.op _ rfl rfl rfl rfl rfl ?_
        | refine LexA.skip rfl rfl rfl ?_
        | refine LexA.build _ rfl rfl rfl rfl rfl ?_
        | refine LexA.sh _ rfl rfl rfl rfl rfl ?_
        | refine LexA.gsplit _ rfl rfl rfl (fun h => ?_) (fun h => ?_)
        | refine LexA.nil ?_
      · refine retK.ok rfl rfl (congrArg (AV.int .i64) ?_) .int
        rw [orI, if_pos ha]
      · have hb : b = 0 := by simpa using h
        exact ⟨⟨fun _ => ha, fun _ => hb⟩, ⟨rfl, rfl, rfl, rfl, trivial⟩, rfl⟩
    · omega
  · repeat' first
      | refine WpA.seq ?_
      | refine WpA.region ?_
      | refine WpOps.op _ rfl rfl rfl rfl rfl ?_
      | refine WpOps.box _ rfl rfl rfl rfl rfl ?_
      | refine WpOps.alloc _ rfl rfl rfl rfl rfl rfl ?_
      | refine WpOps.store rfl rfl rfl rfl rfl rfl rfl rfl rfl rfl ?_
      | refine WpOps.skip rfl rfl rfl ?_
      | refine WpOps.build _ rfl rfl rfl rfl rfl ?_
      | refine WpOps.sh _ rfl rfl rfl rfl rfl ?_
      | refine WpOps.gsplit _ rfl rfl rfl (fun h => ?_) (fun h => ?_)
      | refine WpA.block ?_
      | refine WpA.exit ?_
      | refine WpOps.nil ?_
      | refine WpA.ret ?_
      | refine WpA.skip ?_
      | refine WpA.condT rfl ?_
      | refine WpA.condF rfl ?_
      | refine WpA.cond _ rfl (fun h => ?_) (fun h => ?_)
      | refine WpA.draw (by kernel_rfl) ?_
      | refine LexA.op _ rfl rfl rfl rfl rfl ?_
      | refine LexA.skip rfl rfl rfl ?_
      | refine LexA.build _ rfl rfl rfl rfl rfl ?_
      | refine LexA.sh _ rfl rfl rfl rfl rfl ?_
      | refine LexA.gsplit _ rfl rfl rfl (fun h => ?_) (fun h => ?_)
      | refine LexA.nil ?_
    refine retK.ok rfl rfl (congrArg (AV.int .i64) ?_) .int
    rw [orI, if_pos (hok.1 (by decide)), hok.2 (by decide)]

def numO (t : UInt8) (x : Nat) : Oct := .mk t (be x) []
def strO (t : UInt8) (s : List UInt8) : Oct := .mk t s []
def File.hs (f : File) : List UInt8 := (List.range 32).map f.h
def fileO (f : File) : Oct := .mk 129 [] [strO 1 f.name, strO 2 f.hs]
def manHead (m : Man) : List Oct := [numO 1 m.v.toNat, numO 2 m.a.toNat, numO 3 m.b.toNat]
def manO (m : Man) : Oct := .mk 128 [] (manHead m ++ m.fs.map fileO)

theorem be_len {x k : Nat} (h : x < 2 ^ k) : (be x).length ≤ (k + 7) / 8 := by
  have : ∀ (n : Nat), (beN x n).length = n := by
    intro n
    induction n with
    | zero => rfl
    | succ n ih => simp [beN, ih]
  rw [be, this]
  have := bitLen_lt h
  omega
theorem leaf_size (t : UInt8) (bs : List UInt8) : (Oct.mk t bs []).size = 1 + wide bs.length + bs.length := by
  rw [size_mk]; simp [Oct.sizeL]
theorem numO_size (t : UInt8) {x : Nat} (h : x < 18446744073709551616) : (numO t x).size ≤ 18 := by
  have := be_len (k := 64) h
  have hw := wide_le (be x).length (by omega)
  rw [numO, leaf_size]; omega
theorem fileO_size (f : File) (h : f.name.length ≤ 1000000) : (fileO f).size ≤ 1000100 := by
  have h2 : f.hs.length = 32 := by simp [File.hs]
  have w1 := wide_le f.name.length (by omega)
  have w2 := wide_le f.hs.length (by omega)
  have e : Oct.sizeL [strO 1 f.name, strO 2 f.hs] = (1 + wide f.name.length + f.name.length) + (1 + wide f.hs.length + f.hs.length) := by
    rw [sizeL_cons, sizeL_cons, strO, strO, leaf_size, leaf_size]; simp [Oct.sizeL]
  have w3 := wide_le (0 + Oct.sizeL [strO 1 f.name, strO 2 f.hs]) (by rw [e]; omega)
  rw [fileO, size_mk, List.length_nil]
  omega
theorem files_size : ∀ (fs : List File), (∀ f ∈ fs, f.name.length ≤ 1000000) → Oct.sizeL (fs.map fileO) ≤ 1000100 * fs.length
  | [], _ => by simp [Oct.sizeL]
  | f :: fs, h => by
    rw [List.map_cons, sizeL_cons, List.length_cons]
    have := fileO_size f (h f List.mem_cons_self)
    have := files_size fs (fun g hg => h g (List.mem_cons_of_mem _ hg))
    omega

theorem okUpTo_all {fs : List File} (h : okUpTo fs fs.length = true) : ∀ f ∈ fs, name f.name = true := fun f hf => by
  obtain ⟨i, hi, rfl⟩ := List.mem_iff_getElem.1 hf
  unfold okUpTo at h
  rw [List.all_eq_true] at h
  have := h i (List.mem_range.2 hi)
  unfold okAt at this
  rw [List.getElem?_eq_getElem hi] at this
  simp only [Bool.and_eq_true] at this
  exact this.1

theorem check_good {m : Man} (h : check m = 0) : m.fs.length ≤ 200 ∧ 0 ≤ m.a ∧ m.a ≤ 1099511627776 ∧ 0 ≤ m.b ∧ m.b ≤ 1099511627776 ∧ ∀ f ∈ m.fs, f.name.length ≤ 40 := by
  unfold check at h
  by_cases h1 : 200 < m.fs.length
  · rw [if_pos h1] at h; cases h
  · rw [if_neg h1] at h
    by_cases h2 : manOk m = true
    · have h3 := h2
      simp only [manOk, win, isTime, Bool.and_eq_true, decide_eq_true_eq] at h3
      refine ⟨by omega, h3.1.1.1.1, h3.1.1.1.2, h3.1.1.2.1, h3.1.1.2.2, fun f hf => ?_⟩
      have := okUpTo_all h3.2 f hf
      simp only [name, Bool.and_eq_true, decide_eq_true_eq] at this
      exact this.1.1.1.2
    · rw [if_neg h2] at h; cases h

theorem manO_size {m : Man} (h : check m = 0) (hv : m.v.toNat < 18446744073709551616) : (manO m).size ≤ 1000000000 := by
  obtain ⟨g1, g2, g3, g4, g5, g6⟩ := check_good h
  have s1 := numO_size 1 hv
  have s2 := numO_size 2 (x := m.a.toNat) (by omega)
  have s3 := numO_size 3 (x := m.b.toNat) (by omega)
  have s4 := files_size m.fs (fun f hf => Nat.le_trans (g6 f hf) (by decide))
  have e : Oct.sizeL (manHead m ++ m.fs.map fileO) ≤ 54 + 1000100 * m.fs.length := by
    rw [sizeL_append, manHead, sizeL_cons, sizeL_cons, sizeL_cons]
    simp only [Oct.sizeL]
    omega
  have w := wide_le (0 + Oct.sizeL (manHead m ++ m.fs.map fileO)) (by omega)
  rw [manO, size_mk, List.length_nil]
  omega

/-- What Encode gives. -/
def manEnc (m : Man) : List UInt8 × Int := if check m ≠ 0 then ([], check m) else if checkP (manO m) = 0 then ((manO m).enc, 0) else ([], (checkP (manO m) : Nat))

theorem octA_leaf (t : UInt8) (bs : List UInt8) : octA t bs [] = (Oct.mk t bs []).cells := by
  show _ = octA t bs (Oct.cellsL [])
  simp only [Oct.cellsL]

theorem manEncode_A (m : Man) (H : List AObj) (hb : m.fs.length ≤ 1000000000000000) (hv0 : 0 ≤ m.v) (hv1 : m.v < 18446744073709551616) :
    CallsA E 13 [m.av .no] H (Is H (.tup [.sl .no 1 ((manEnc m).1.map byteRow), .int .i64 (manEnc m).2])) := by
  have bd : ∀ n (bs : List UInt8) (e : Int), Bd n (.tup [.sl .no 1 (bs.map byteRow), .int .i64 e]) := fun n bs e => .tup fun x hx => by
    simp only [List.mem_cons, List.not_mem_nil, or_false] at hx
    rcases hx with rfl | rfl
    · exact bd_slB _
    · exact .int
  refine .enter Try.func13 rfl rfl rfl 52 Try.ntmps13 (Nat.le_of_ble_eq_true rfl) ?_
  have hv2 : (m.v.toNat : Int) = m.v := Int.toNat_of_nonneg hv0
  by_cases hc : check m = 0
  · obtain ⟨g1, g2, g3, g4, g5, g6⟩ := check_good hc
    have N1 : ∀ H, CallsA E 27 [.int .u8 1, .int .u64 m.v] H (Is H (.agg (numO 1 m.v.toNat).cells)) := fun H => by
      have := Num_A 1 m.v.toNat H (by omega)
      rw [hv2] at this
      rw [numO, ← octA_leaf]; exact this
    have N2 : ∀ (t : UInt8) (x : Int) H, 0 ≤ x → x ≤ 1099511627776 → CallsA E 27 [u8 t, .int .u64 (IntKind.u64.wrap x)] H (Is H (.agg (numO t x.toNat).cells)) := fun t x H h0 h1 => by
      have := Num_A t x.toNat H (by omega)
      rw [wrapu64 h0 (by omega), numO, ← octA_leaf]
      rw [Int.toNat_of_nonneg h0] at this
      exact this
    repeat' first
      | refine WpA.seq ?_
      | refine WpA.region ?_
      | refine WpOps.op _ rfl rfl rfl rfl rfl ?_
      | refine WpOps.box _ rfl rfl rfl rfl rfl ?_
      | refine WpOps.alloc _ rfl rfl rfl rfl rfl rfl ?_
      | refine WpOps.store rfl rfl rfl rfl rfl rfl rfl rfl rfl rfl ?_
      | refine WpOps.skip rfl rfl rfl ?_
      | refine WpOps.build _ rfl rfl rfl rfl rfl ?_
      | refine WpOps.sh _ rfl rfl rfl rfl rfl ?_
      | (refine WpOps.call rfl rfl rfl rfl rfl (by exact Check_A m _ hb) ?_; rintro _ _ ⟨rfl, rfl⟩)
      | (refine WpOps.call rfl rfl rfl rfl rfl (by exact N1 _) ?_; rintro _ _ ⟨rfl, rfl⟩)
      | (refine WpOps.call rfl rfl rfl rfl rfl (by exact N2 2 m.a _ g2 g3) ?_; rintro _ _ ⟨rfl, rfl⟩)
      | (refine WpOps.call rfl rfl rfl rfl rfl (by exact N2 3 m.b _ g4 g5) ?_; rintro _ _ ⟨rfl, rfl⟩)
      | refine LexA.buildSlice _ rfl rfl rfl rfl rfl rfl rfl rfl rfl rfl rfl ?_
      | refine WpOps.gsplit _ rfl rfl rfl (fun h => ?_) (fun h => ?_)
      | refine WpA.block ?_
      | refine WpA.exit ?_
      | refine WpOps.nil ?_
      | refine WpA.ret ?_
      | refine WpA.skip ?_
      | refine WpA.condT rfl ?_
      | refine WpA.condF rfl ?_
      | refine WpA.cond _ rfl (fun h => ?_) (fun h => ?_)
      | refine WpA.draw (by kernel_rfl) ?_
      | refine LexA.op _ rfl rfl rfl rfl rfl ?_
      | refine LexA.skip rfl rfl rfl ?_
      | refine LexA.build _ rfl rfl rfl rfl rfl ?_
      | refine LexA.sh _ rfl rfl rfl rfl rfl ?_
      | refine LexA.call rfl rfl rfl rfl rfl (by exact Check_A m _ hb) ?_
      | refine LexA.call rfl rfl rfl rfl rfl (by exact N1 _) ?_
      | refine LexA.call rfl rfl rfl rfl rfl (by exact N2 2 m.a _ g2 g3) ?_
      | refine LexA.call rfl rfl rfl rfl rfl (by exact N2 3 m.b _ g4 g5) ?_
      | refine LexA.gsplit _ rfl rfl rfl (fun h => ?_) (fun h => ?_)
      | refine LexA.nil ?_
    · exfalso
      simp at h
      exact h hc
    · clear N1 N2
      have hN : (rows m.fs).length = m.fs.length := rows_length _
      have hsz := manO_size hc (by omega)
      have S1 : ∀ (t : UInt8) (s : List UInt8) H, s.length ≤ 140737488355328 → CallsA E 29 [u8 t, .str s] H (Is H (.agg (strO t s).cells)) := fun t s H hl => by
        rw [strO, ← octA_leaf]; exact Str_A t s H hl
      have Q1 : ∀ (f : File) H, f.name.length ≤ 40 → CallsA E 28 [.int .u8 129, .sl .full 3 [(strO 1 f.name).cells, (strO 2 f.hs).cells]] H (Is H (.agg (fileO f).cells)) := fun f H hf => by
        have := Seq_A 129 [strO 1 f.name, strO 2 f.hs] H (by have := fileO_size f (by omega); rw [fileO] at this; omega)
        refine CallsA.subL (vs := [u8 129, .sl .no 3 (Oct.cellsL [strO 1 f.name, strO 2 f.hs])]) ⟨Sub.refl _, ?_, trivial⟩ this
        rw [cellsL_map]; exact Sub.untag
      have h0 : Oct.cellsL (manHead m ++ (m.fs.take 0).map fileO) = [(numO 1 m.v.toNat).cells, (numO 2 m.a.toNat).cells, (numO 3 m.b.toNat).cells] := by rw [cellsL_map]; rfl
      refine WpA.adoptN 5 rfl ?_
      refine WpA.loopG m.fs.length (fun i => [(1, .ptr H.length 0 0), (5, .sl (.row H.length 1) 3 (Oct.cellsL (manHead m ++ (m.fs.take i).map fileO))), (28, .sl .no 33 (rows m.fs)), (29, .int .i64 (m.fs.length : Nat)), (30, .int .i64 (i : Nat))])
        (fun i => H ++ [.cells (m.cells .no), .tail (Oct.cellsL (manHead m ++ (m.fs.take i).map fileO)).length 3]) (fun _ => True) trivial ⟨rfl, ?_, rfl, ?_, rfl, trivial⟩ ?_ (fun _ _ => by simp) (fun _ _ _ => ?_) (fun i hi _ => ?_) (fun i hi _ => ?_) (fun _ => ?_) (fun _ => ⟨rfl, rfl, rfl, rfl, rfl, trivial⟩)
      · rw [h0]; rfl
      · show AV.int .i64 ((rows m.fs).length : Nat) = _
        rw [hN]
      · rw [h0]; rfl
      · refine TrOk.app fun j o hj => ?_
        rcases j with _ | _ | j
        · exact .inl hj
        · injection hj with hj; subst hj; exact .inr (obd_tail)
        · cases hj
      · exact ⟨.ptr (by simp), .sl (fun _ _ e => by cases e; simp) (Oct.bdL _ _), rows_bd _ _, .int, .int, trivial⟩
      · have hi0 := rows_get hi
        have hf6 := g6 _ (List.getElem_mem hi)
        have hl1 : m.fs[i].name.length ≤ 140737488355328 := by omega
        have hl2 : m.fs[i].hs.length ≤ 140737488355328 := by simp [File.hs]
        repeat' first
          | refine WpA.drawI [H.length + 2] [0, 0, 4, 0, 0, 0, 4, 0, 0, 0, 0, 3, 0] (by kernel_rfl) (by kernel_rfl) ?_
          | refine WpA.seq ?_
          | refine WpA.region ?_
          | refine WpOps.op _ rfl rfl rfl rfl rfl ?_
          | refine WpOps.box _ rfl rfl rfl rfl rfl ?_
          | refine WpOps.alloc _ rfl rfl rfl rfl rfl rfl ?_
          | refine WpOps.store rfl rfl rfl rfl rfl rfl rfl rfl rfl rfl ?_
          | refine WpOps.skip rfl rfl rfl ?_
          | refine WpOps.build _ rfl rfl rfl rfl rfl ?_
          | refine WpOps.sh _ rfl rfl rfl rfl rfl ?_
          | (refine WpOps.call rfl rfl rfl rfl rfl (by exact S1 1 _ _ hl1) ?_; rintro _ _ ⟨rfl, rfl⟩)
          | (refine WpOps.call rfl rfl rfl rfl rfl (by exact S1 2 _ _ hl2) ?_; rintro _ _ ⟨rfl, rfl⟩)
          | (refine WpOps.call rfl rfl rfl rfl rfl (by exact Q1 m.fs[i] _ hf6) ?_; rintro _ _ ⟨rfl, rfl⟩)
          | refine WpOps.elem (m.fs[i]).row rfl rfl rfl rfl rfl rfl rfl rfl rfl (Int.natCast_nonneg i) hi0 ?_
          | (refine LexH.p0 rfl rfl rfl rfl (fun H0 => .sliceArr rfl rfl rfl) ?_)
          | (refine LexH.osStr4 (m.fs[i]).hs rfl rfl rfl rfl rfl rfl rfl rfl rfl (by simp) rfl rfl rfl ?_)
          | refine WpOps.gsplit _ rfl rfl rfl (fun h => ?_) (fun h => ?_)
          | refine WpA.block ?_
          | refine WpA.exit ?_
          | refine WpOps.nil ?_
          | refine WpA.ret ?_
          | refine WpA.skip ?_
          | refine WpA.condT rfl ?_
          | refine WpA.condF rfl ?_
          | refine WpA.cond _ rfl (fun h => ?_) (fun h => ?_)
          | refine WpA.drawC (by kernel_rfl) (by kernel_rfl) ?_
          | refine LexH.op0 _ rfl rfl rfl rfl rfl (fun _ => rfl) ?_
          | refine LexH.op1 _ rfl rfl rfl rfl rfl rfl ?_
          | refine LexH.load4 _ rfl rfl rfl rfl rfl rfl (by simp) rfl rfl rfl rfl ?_
          | refine LexH.skip rfl rfl rfl ?_
          | refine LexH.build _ rfl rfl rfl rfl rfl rfl ?_
          | refine LexH.buildSlice _ rfl rfl rfl rfl rfl rfl rfl rfl rfl rfl rfl rfl ?_
          | refine LexH.store rfl rfl rfl rfl rfl rfl rfl rfl rfl rfl rfl ?_
          | refine LexH.sh _ rfl rfl rfl rfl rfl rfl ?_
          | refine LexH.call rfl rfl rfl rfl rfl rfl (by exact S1 1 _ _ hl1) ?_
          | refine LexH.call0 rfl rfl rfl rfl rfl rfl (fun _ => by exact S1 1 _ _ hl1) ?_
          | refine LexH.call rfl rfl rfl rfl rfl rfl (by exact S1 2 _ _ hl2) ?_
          | refine LexH.call0 rfl rfl rfl rfl rfl rfl (fun _ => by exact S1 2 _ _ hl2) ?_
          | refine LexH.call rfl rfl rfl rfl rfl rfl (by exact Q1 m.fs[i] _ hf6) ?_
          | refine LexH.call0 rfl rfl rfl rfl rfl rfl (fun _ => by exact Q1 m.fs[i] _ hf6) ?_
          | refine LexH.gsplit _ rfl rfl rfl (fun h => ?_) (fun h => ?_)
          | refine LexH.nil ?_
        · refine LexH.appR3 rfl rfl rfl rfl rfl rfl rfl rfl (fun k h => by cases h) rfl rfl rfl rfl rfl rfl ?_ ?_ (by exact Like.one fun _ h => h) ?_
          · intro y hy a ha
            have hy' := List.mem_singleton.1 hy
            subst hy'
            have e : [AV.int .u8 129, .sl .no 1 [], .sl .no 3 (Oct.cellsL [strO 1 m.fs[i].name, strO 2 m.fs[i].hs])] = (fileO m.fs[i]).cells := rfl
            revert a
            show ∀ a ∈ (fileO m.fs[i]).cells, a.one = true
            intro a ha
            simp only [Oct.cells, octA, List.mem_cons, List.not_mem_nil, or_false] at ha
            rcases ha with rfl | rfl | rfl <;> rfl
          · show ((Oct.cellsL _).length + 1) * 56 ≤ _
            rw [cellsL_length, List.length_append, List.length_map, List.length_take]
            show (3 + min i m.fs.length + 1) * 56 ≤ _
            omega
          · have hs : Oct.cellsL (manHead m ++ (m.fs.take i).map fileO) ++ [(fileO m.fs[i]).cells] = Oct.cellsL (manHead m ++ (m.fs.take (i + 1)).map fileO) := by
              rw [List.take_succ_eq_append_getElem hi, cellsL_map, cellsL_map, List.map_append, List.map_append, List.map_append, List.map_append, List.append_assoc]; rfl
            repeat' first
              | refine WpA.seq ?_
              | refine WpA.region ?_
              | refine WpOps.op _ rfl rfl rfl rfl rfl ?_
              | refine WpOps.box _ rfl rfl rfl rfl rfl ?_
              | refine WpOps.alloc _ rfl rfl rfl rfl rfl rfl ?_
              | refine WpOps.store rfl rfl rfl rfl rfl rfl rfl rfl rfl rfl ?_
              | refine WpOps.skip rfl rfl rfl ?_
              | refine WpOps.build _ rfl rfl rfl rfl rfl ?_
              | refine WpOps.sh _ rfl rfl rfl rfl rfl ?_
              | refine WpOps.gsplit _ rfl rfl rfl (fun h => ?_) (fun h => ?_)
              | refine WpA.block ?_
              | refine WpA.exit ?_
              | refine WpOps.nil ?_
              | refine WpA.ret ?_
              | refine WpA.skip ?_
              | refine WpA.condT rfl ?_
              | refine WpA.condF rfl ?_
              | refine WpA.cond _ rfl (fun h => ?_) (fun h => ?_)
              | refine WpA.drawC (by kernel_rfl) (by kernel_rfl) ?_
              | refine LexH.op0 _ rfl rfl rfl rfl rfl (fun _ => rfl) ?_
              | refine LexH.op1 _ rfl rfl rfl rfl rfl rfl ?_
              | refine LexH.load4 _ rfl rfl rfl rfl rfl rfl (by simp) rfl rfl rfl rfl ?_
              | refine LexH.skip rfl rfl rfl ?_
              | refine LexH.build _ rfl rfl rfl rfl rfl rfl ?_
              | refine LexH.buildSlice _ rfl rfl rfl rfl rfl rfl rfl rfl rfl rfl rfl rfl ?_
              | refine LexH.store rfl rfl rfl rfl rfl rfl rfl rfl rfl rfl rfl ?_
              | refine LexH.sh _ rfl rfl rfl rfl rfl rfl ?_
              | refine LexH.gsplit _ rfl rfl rfl (fun h => ?_) (fun h => ?_)
              | refine LexH.nil ?_
            refine ⟨trivial, ⟨rfl, congrArg (AV.sl _ 3) hs, rfl, rfl, congrArg (AV.int .i64) (wrap64 (by omega) (by omega)), trivial⟩, [.cells m.fs[i].row], ?_⟩
            show H ++ [.cells (m.cells .no), .tail (Oct.cellsL (manHead m ++ (m.fs.take i).map fileO) ++ [(fileO m.fs[i]).cells]).length 3, .cells m.fs[i].row] = _
            rw [hs]
            exact grow rfl
        · simp at h
          omega
      · have hE := fun H => octEncode_A (manO m) H (by omega)
        have hQ : ∀ H (tg : Tag), CallsA E 28 [.int .u8 128, .sl tg 3 (Oct.cellsL (manHead m ++ (m.fs.take m.fs.length).map fileO))] H (Is H (.agg (manO m).cells)) := fun H tg => by
          have := Seq_A 128 (manHead m ++ m.fs.map fileO) H (by rw [manO] at hsz; omega)
          refine CallsA.subL (vs := [u8 128, .sl .no 3 (Oct.cellsL (manHead m ++ m.fs.map fileO))]) ⟨Sub.refl _, ?_, trivial⟩ this
          rw [List.take_length]; exact Sub.untag
        repeat' first
          | refine WpA.seq ?_
          | refine WpA.region ?_
          | refine WpOps.op _ rfl rfl rfl rfl rfl ?_
          | refine WpOps.box _ rfl rfl rfl rfl rfl ?_
          | refine WpOps.alloc _ rfl rfl rfl rfl rfl rfl ?_
          | refine WpOps.store rfl rfl rfl rfl rfl rfl rfl rfl rfl rfl ?_
          | refine WpOps.skip rfl rfl rfl ?_
          | refine WpOps.build _ rfl rfl rfl rfl rfl ?_
          | refine WpOps.sh _ rfl rfl rfl rfl rfl ?_
          | (refine WpOps.call rfl rfl rfl rfl rfl (by exact hQ _ _) ?_; rintro _ _ ⟨rfl, rfl⟩)
          | (refine WpOps.call rfl rfl rfl rfl rfl (by exact hE _) ?_; rintro _ _ ⟨rfl, rfl⟩)
          | refine WpOps.gsplit _ rfl rfl rfl (fun h => ?_) (fun h => ?_)
          | refine WpA.block ?_
          | refine WpA.exit ?_
          | refine WpOps.nil ?_
          | refine WpA.ret ?_
          | refine WpA.skip ?_
          | refine WpA.condT rfl ?_
          | refine WpA.condF rfl ?_
          | refine WpA.cond _ rfl (fun h => ?_) (fun h => ?_)
          | refine WpA.draw (by kernel_rfl) ?_
          | refine LexA.op _ rfl rfl rfl rfl rfl ?_
          | refine LexA.skip rfl rfl rfl ?_
          | refine LexA.build _ rfl rfl rfl rfl rfl ?_
          | refine LexA.sh _ rfl rfl rfl rfl rfl ?_
          | refine LexA.call rfl rfl rfl rfl rfl (by exact hQ _ _) ?_
          | refine LexA.call rfl rfl rfl rfl rfl (by exact hE _) ?_
          | refine LexA.gsplit _ rfl rfl rfl (fun h => ?_) (fun h => ?_)
          | refine LexA.nil ?_
        · simp at h
        · rw [manEnc, if_neg (by simpa using hc)]
          by_cases hk : checkP (manO m) = 0
          · rw [if_pos hk, if_pos hk, hk]
            exact retK.ok rfl rfl rfl (bd _ _ _)
          · rw [if_neg hk, if_neg hk]
            exact retK.ok rfl rfl rfl (bd _ [] _)
  · have he : manEnc m = ([], check m) := by rw [manEnc, if_pos hc]
    rw [he]
    repeat' first
      | refine WpA.seq ?_
      | refine WpA.region ?_
      | refine WpOps.op _ rfl rfl rfl rfl rfl ?_
      | refine WpOps.box _ rfl rfl rfl rfl rfl ?_
      | refine WpOps.alloc _ rfl rfl rfl rfl rfl rfl ?_
      | refine WpOps.store rfl rfl rfl rfl rfl rfl rfl rfl rfl rfl ?_
      | refine WpOps.skip rfl rfl rfl ?_
      | refine WpOps.build _ rfl rfl rfl rfl rfl ?_
      | refine WpOps.sh _ rfl rfl rfl rfl rfl ?_
      | (refine WpOps.call rfl rfl rfl rfl rfl (by exact Check_A m _ hb) ?_; rintro _ _ ⟨rfl, rfl⟩)
      | refine WpOps.gsplit _ rfl rfl rfl (fun h => ?_) (fun h => ?_)
      | refine WpA.block ?_
      | refine WpA.exit ?_
      | refine WpOps.nil ?_
      | refine WpA.ret ?_
      | refine WpA.skip ?_
      | refine WpA.condT rfl ?_
      | refine WpA.condF rfl ?_
      | refine WpA.cond _ rfl (fun h => ?_) (fun h => ?_)
      | refine WpA.draw (by kernel_rfl) ?_
      | refine LexA.op _ rfl rfl rfl rfl rfl ?_
      | refine LexA.skip rfl rfl rfl ?_
      | refine LexA.build _ rfl rfl rfl rfl rfl ?_
      | refine LexA.sh _ rfl rfl rfl rfl rfl ?_
      | refine LexA.call rfl rfl rfl rfl rfl (by exact Check_A m _ hb) ?_
      | refine LexA.gsplit _ rfl rfl rfl (fun h => ?_) (fun h => ?_)
      | refine LexA.nil ?_
    · exact retK.sub (.inr rfl) rfl (TrOk.refl H) (L := _) rfl rfl (Sub.tup (vs := [.sl .no 1 [], .int .i64 (check m)]) ⟨Sub.empty, Sub.refl _, trivial⟩) (bd _ [] _) ⟨rfl, rfl⟩
    all_goals
      exfalso
      simp at h
      exact hc h
end Go.Gp.Try

/- The manifest: Decode, its closures. -/
namespace Go.Gp.Try
open Go.Proofs
set_option linter.unusedVariables false
set_option linter.unusedSimpArgs false
set_option maxHeartbeats 4000000
set_option maxRecDepth 100000

abbrev errB (e : Int) : AObj := .cells [.int .i64 e]

theorem fail_A (a b : Int) (m j : Nat) (H : List AObj) (hH : H[m + j]? = some (errB a)) :
    CallsA E 34 [.int .i64 b, .ptr m j 0] H (fun e H' => H' = H.set (m + j) (errB (orI a b)) ∧ e = .ret (.tup [])) := by
  refine .enter Try.func34 rfl rfl rfl 7 Try.ntmps34 (Nat.le_of_ble_eq_true rfl) ?_
  repeat' first
    | refine WpA.seq ?_
    | refine WpA.region ?_
    | refine WpOps.op _ rfl rfl rfl rfl rfl ?_
    | refine WpOps.box _ rfl rfl rfl rfl rfl ?_
    | refine WpOps.alloc _ rfl rfl rfl rfl rfl rfl ?_
    | refine WpOps.store rfl rfl rfl rfl rfl rfl rfl rfl rfl rfl ?_
    | refine WpOps.skip rfl rfl rfl ?_
    | refine WpOps.build _ rfl rfl rfl rfl rfl ?_
    | refine WpOps.sh _ rfl rfl rfl rfl rfl ?_
    | (refine WpOps.call rfl rfl rfl rfl rfl (by exact Or_A a b _) ?_; rintro _ _ ⟨rfl, rfl⟩)
    | (refine WpOps.loadOut _ rfl rfl rfl rfl rfl hH rfl rfl rfl ?_)
    | (refine WpOps.buildSlice _ rfl rfl rfl rfl rfl rfl rfl rfl rfl rfl rfl ?_)
    | (refine WpOps.storeOut rfl rfl rfl rfl hH rfl rfl rfl rfl rfl ?_)
    | refine WpOps.gsplit _ rfl rfl rfl (fun h => ?_) (fun h => ?_)
    | refine WpA.block ?_
    | refine WpA.exit ?_
    | refine WpOps.nil ?_
    | refine WpA.ret ?_
    | refine WpA.skip ?_
    | refine WpA.condT rfl ?_
    | refine WpA.condF rfl ?_
    | refine WpA.cond _ rfl (fun h => ?_) (fun h => ?_)
    | refine WpA.draw (by kernel_rfl) ?_
    | refine LexA.op _ rfl rfl rfl rfl rfl ?_
    | refine LexA.skip rfl rfl rfl ?_
    | refine LexA.build _ rfl rfl rfl rfl rfl ?_
    | refine LexA.sh _ rfl rfl rfl rfl rfl ?_
    | refine LexA.call rfl rfl rfl rfl rfl (by exact Or_A a b _) ?_
    | refine LexA.gsplit _ rfl rfl rfl (fun h => ?_) (fun h => ?_)
    | refine LexA.nil ?_
  exact retK.sub (.inl rfl) (by simp) (TrOk.set1 (obd_cells (by intro x hx; have := List.mem_singleton.1 hx; subst this; exact .int))) rfl rfl (r := .tup []) (Sub.refl _) (.tup (by simp)) ⟨rfl, rfl⟩

theorem numC_A (os : List Oct) (i : Nat) (hi : i < os.length) (most : Nat) (hm : i < 255) (a : Int) (m p q r : Nat) (H : List AObj) (hp : H[m + p]? = some (.cells [.sl .no 3 (Oct.cellsL os)])) (hq : H[m + q]? = some (.cells [.func 34 [.ptr m r 0]])) (hr : H[m + r]? = some (errB a)) :
    CallsA E 37 [.int .i64 (i : Nat), .int .u64 (most : Nat), .ptr m p 0, .ptr m q 0] H
      (fun e H' => H' = H.set (m + r) (errB (orI a ((readNum os[i] (UInt8.ofNat (i + 1)) most).2 : Nat))) ∧ e = .ret (.int .u64 ((readNum os[i] (UInt8.ofNat (i + 1)) most).1 : Nat))) := by
  have hrl := get_lt hr
  have hc : (Oct.cellsL os)[((i : Nat) : Int).toNat]? = some (os[i]).cells := by rw [Int.toNat_natCast]; exact cellsL_get hi
  have hw : IntKind.u8.wrap (IntKind.i64.wrap ((i : Int) + 1)) = ((UInt8.ofNat (i + 1)).toNat : Int) := by
    rw [wrap64 (by omega) (by omega)]
    rw [UInt8.toNat_ofNat', Nat.mod_eq_of_lt (by omega)]
    show ((i : Int) + 1) % 256 = _
    omega
  have hN : ∀ H, CallsA E 38 [.agg os[i].cells, .int .u8 (IntKind.u8.wrap (IntKind.i64.wrap ((i : Int) + 1))), .int .u64 (most : Nat)] H _ := fun H => by rw [hw]; exact ReadNum_A os[i] (UInt8.ofNat (i + 1)) most H
  have hF : ∀ b, CallsA E 34 [.int .i64 b, .ptr m r 0] (H ++ []) (fun e H' => H' = H.set (m + r) (errB (orI a b)) ++ [] ∧ e = .ret (.tup [])) := fun b => by
    have := fail_A a b m r (H ++ []) (by simpa using hr)
    rw [List.set_append_left _ _ hrl] at this
    exact this
  refine .enter Try.func37 rfl rfl rfl 25 Try.ntmps37 (Nat.le_of_ble_eq_true rfl) ?_
  repeat' first
    | refine WpA.seq ?_
    | refine WpA.region ?_
    | refine WpOps.op _ rfl rfl rfl rfl rfl ?_
    | refine WpOps.box _ rfl rfl rfl rfl rfl ?_
    | refine WpOps.alloc _ rfl rfl rfl rfl rfl rfl ?_
    | refine WpOps.store rfl rfl rfl rfl rfl rfl rfl rfl rfl rfl ?_
    | refine WpOps.skip rfl rfl rfl ?_
    | refine WpOps.build _ rfl rfl rfl rfl rfl ?_
    | refine WpOps.sh _ rfl rfl rfl rfl rfl ?_
    | (refine WpOps.call rfl rfl rfl rfl rfl (by exact hN _) ?_; rintro _ _ ⟨rfl, rfl⟩)
    | (refine WpOps.loadOut _ rfl rfl rfl rfl rfl hp rfl rfl rfl ?_)
    | (refine WpOps.loadOut _ rfl rfl rfl rfl rfl hq rfl rfl rfl ?_)
    | (refine WpOps.elem (os[i]).cells rfl rfl rfl rfl rfl rfl rfl rfl rfl (Int.natCast_nonneg i) hc ?_)
    | (refine WpOps.call rfl rfl rfl rfl rfl (by exact hF _) ?_; rintro _ _ ⟨rfl, rfl⟩)
    | refine WpOps.gsplit _ rfl rfl rfl (fun h => ?_) (fun h => ?_)
    | refine WpA.block ?_
    | refine WpA.exit ?_
    | refine WpOps.nil ?_
    | refine WpA.ret ?_
    | refine WpA.skip ?_
    | refine WpA.condT rfl ?_
    | refine WpA.condF rfl ?_
    | refine WpA.cond _ rfl (fun h => ?_) (fun h => ?_)
    | refine WpA.draw (by kernel_rfl) ?_
    | refine LexA.op _ rfl rfl rfl rfl rfl ?_
    | refine LexA.skip rfl rfl rfl ?_
    | refine LexA.build _ rfl rfl rfl rfl rfl ?_
    | refine LexA.sh _ rfl rfl rfl rfl rfl ?_
    | refine LexA.call rfl rfl rfl rfl rfl (by exact hN _) ?_
    | refine LexA.gsplit _ rfl rfl rfl (fun h => ?_) (fun h => ?_)
    | refine LexA.nil ?_
  exact retK.sub (.inr rfl) (by simp) (TrOk.set1 (obd_cells (by intro x hx; have := List.mem_singleton.1 hx; subst this; exact .int))) rfl rfl (Sub.refl _) .int ⟨rfl, rfl⟩
end Go.Gp.Try
