/- Part of a proof: GpR10 -/
import Derived.Test.YtmacdhglhafldaaK13
import Derived.Test.YtmacdhglhafldaaK28

/- The reference's manifests: Value, Encode. -/
namespace Go.Gp.Try
open Go.Proofs
set_option linter.unusedVariables false
set_option linter.unusedSimpArgs false
set_option maxHeartbeats 4000000
set_option maxRecDepth 100000

/-- Seq, what it lays kept in sight: the list may be appended to. -/
theorem rSeqRow_A (t : UInt8) (tg : Tag) (is : List Oct) (m q : Nat) (H : List AObj) (hmq : m + q = H.length) (hs : Oct.sizeL is ≤ 900000000000) :
    CallsA E 53 [u8 t, .sl tg 3 (Oct.cellsL is)] H (fun e H' => H' = H ++ [.cells [u8 t, .sl .full 0 [], .sl (.row H.length 2) 3 (Oct.cellsL is)], .cells [u8 t, .sl .full 0 [], .sl (.row H.length 2) 3 (Oct.cellsL is)], .tail (Oct.cellsL is).length 3] ∧ e = .ret (.agg [u8 t, .sl .full 0 [], .sl (.row m (q + 2)) 3 (Oct.cellsL is)])) := by
  have hli : is.length ≤ Oct.sizeL is := length_le_sizeL is
  have ih : ∀ (i : Nat) (h : i < is.length) (H : List AObj), CallsA E 69 [.agg (is[i]).cells] H (Is H (.agg (is[i]).cells)) := fun i h H => rTwin_A is[i] H (by have := size_get h; omega)
  refine .enter Try.func53 rfl rfl rfl 26 Try.ntmps53 (Nat.le_of_ble_eq_true rfl) ?_
  repeat' first
    | refine WpA.seq ?_
    | refine WpA.region ?_
    | refine WpOps.op _ rfl rfl rfl rfl rfl ?_
    | refine WpOps.box _ rfl rfl rfl rfl rfl ?_
    | refine WpOps.alloc _ rfl rfl rfl rfl rfl rfl ?_
    | refine WpOps.store rfl rfl rfl rfl rfl rfl rfl rfl rfl rfl ?_
    | refine WpOps.skip rfl rfl rfl ?_
    | refine WpOps.build _ rfl rfl rfl rfl rfl ?_
    | refine WpOps.sh _ rfl rfl rfl rfl rfl ?_
    | refine WpOps.gsplit _ rfl rfl rfl (fun h => ?_) (fun h => ?_)
    | refine WpA.block ?_
    | refine WpA.exit ?_
    | refine WpOps.nil ?_
    | refine WpA.ret ?_
    | refine WpA.skip ?_
    | refine WpA.condT rfl ?_
    | refine WpA.condF rfl ?_
    | refine WpA.cond _ rfl (fun h => ?_) (fun h => ?_)
    | refine WpA.drawC (by kernel_rfl) (by kernel_rfl) ?_
    | refine LexH.op0 _ rfl rfl rfl rfl rfl (fun _ => rfl) ?_
    | refine LexH.op1 _ rfl rfl rfl rfl rfl rfl ?_
    | refine LexH.load4 _ rfl rfl rfl rfl rfl rfl (by simp) rfl rfl rfl rfl ?_
    | refine LexH.skip rfl rfl rfl ?_
    | refine LexH.build _ rfl rfl rfl rfl rfl rfl ?_
    | refine LexH.buildSlice _ rfl rfl rfl rfl rfl rfl rfl rfl rfl rfl rfl rfl ?_
    | refine LexH.store rfl rfl rfl rfl rfl rfl rfl rfl rfl rfl rfl ?_
    | refine LexH.sh _ rfl rfl rfl rfl rfl rfl ?_
    | refine LexH.gsplit _ rfl rfl rfl (fun h => ?_) (fun h => ?_)
    | refine LexH.nil ?_
  refine WpA.adoptC (j := 1) (q := 2) 3 rfl rfl ?_
  refine WpA.loopFor is.length (fun i => [(1, .sl tg 3 (Oct.cellsL is)), (4, .ptr H.length 0 0), (5, .ptr H.length 1 0), (6, .int .i64 (i : Nat))])
    (fun i => H ++ [.cells [.int .u8 0, .sl .full 0 [], .sl .full 0 []], .cells [u8 t, .sl .full 0 [], .sl (.row H.length 2) 3 (Oct.cellsL (is.take i))], .tail (Oct.cellsL (is.take i)).length 3]) (fun _ => True) trivial ⟨rfl, rfl, rfl, rfl, trivial⟩ ?_ (fun i hi _ => ?_) (fun _ => ?_)
  · rw [List.take_zero, cellsL_map]; rfl
  · have hc : (Oct.cellsL is)[((i : Nat) : Int).toNat]? = some (is[i]).cells := by rw [Int.toNat_natCast]; exact cellsL_get hi
    have hlt : decide (((i : Nat) : Int) < ((Oct.cellsL is).length : Nat)) = true := by rw [cellsL_length]; simp; omega
    have hfit2 : ((Oct.cellsL (is.take i)).length + 1) * 56 ≤ 140737488355328 := by rw [cellsL_length, List.length_take]; omega
    repeat' first
      | refine WpA.seq ?_
      | refine WpA.region ?_
      | refine WpOps.op _ rfl rfl rfl rfl rfl ?_
      | refine WpOps.box _ rfl rfl rfl rfl rfl ?_
      | refine WpOps.alloc _ rfl rfl rfl rfl rfl rfl ?_
      | refine WpOps.store rfl rfl rfl rfl rfl rfl rfl rfl rfl rfl ?_
      | refine WpOps.skip rfl rfl rfl ?_
      | refine WpOps.build _ rfl rfl rfl rfl rfl ?_
      | refine WpOps.sh _ rfl rfl rfl rfl rfl ?_
      | refine WpOps.gsplit _ rfl rfl rfl (fun h => ?_) (fun h => ?_)
      | refine WpA.block ?_
      | refine WpA.exit ?_
      | refine WpOps.nil ?_
      | refine WpA.ret ?_
      | refine WpA.skip ?_
      | refine WpA.condT rfl ?_
      | refine WpA.condF rfl ?_
      | refine WpA.drawC (by kernel_rfl) (by kernel_rfl) ?_
      | refine LexH.op0 _ rfl rfl rfl rfl rfl (fun _ => rfl) ?_
      | refine LexH.op1 _ rfl rfl rfl rfl rfl rfl ?_
      | refine LexH.load4 _ rfl rfl rfl rfl rfl rfl (by simp) rfl rfl rfl rfl ?_
      | refine LexH.skip rfl rfl rfl ?_
      | refine LexH.build _ rfl rfl rfl rfl rfl rfl ?_
      | refine LexH.buildSlice _ rfl rfl rfl rfl rfl rfl rfl rfl rfl rfl rfl rfl ?_
      | refine LexH.store rfl rfl rfl rfl rfl rfl rfl rfl rfl rfl rfl ?_
      | refine LexH.sh _ rfl rfl rfl rfl rfl rfl ?_
      | refine LexH.gsplit _ rfl rfl rfl (fun h => ?_) (fun h => ?_)
      | refine LexH.nil ?_
    refine WpA.cond true (congrArg AV.bool hlt) (fun h => ?_) (fun h => by cases h)
    repeat' first
      | refine WpA.drawI [H.length + 1] [0, 4, 0, 0, 0, 0, 0, 0, 3, 0, 2] (by kernel_rfl) (by kernel_rfl) ?_
      | refine WpA.seq ?_
      | refine WpA.region ?_
      | refine WpOps.op _ rfl rfl rfl rfl rfl ?_
      | refine WpOps.box _ rfl rfl rfl rfl rfl ?_
      | refine WpOps.alloc _ rfl rfl rfl rfl rfl rfl ?_
      | refine WpOps.store rfl rfl rfl rfl rfl rfl rfl rfl rfl rfl ?_
      | refine WpOps.skip rfl rfl rfl ?_
      | refine WpOps.build _ rfl rfl rfl rfl rfl ?_
      | refine WpOps.sh _ rfl rfl rfl rfl rfl ?_
      | (refine WpOps.call rfl rfl rfl rfl rfl (by exact ih i hi _) ?_; rintro _ _ ⟨rfl, rfl⟩)
      | (refine LexH.elem (is[i]).cells rfl rfl rfl rfl rfl rfl rfl rfl rfl rfl (Int.natCast_nonneg i) hc ?_)
      | (refine LexH.appR3 rfl rfl rfl rfl rfl rfl rfl rfl (fun k h => by cases h) rfl rfl rfl rfl rfl rfl (by exact cells_one is[i]) (by exact hfit2) (by exact Like.one fun _ h => h) ?_)
      | refine WpOps.gsplit _ rfl rfl rfl (fun h => ?_) (fun h => ?_)
      | refine WpA.block ?_
      | refine WpA.exit ?_
      | refine WpOps.nil ?_
      | refine WpA.ret ?_
      | refine WpA.skip ?_
      | refine WpA.condT rfl ?_
      | refine WpA.condF rfl ?_
      | refine WpA.cond _ rfl (fun h => ?_) (fun h => ?_)
      | refine WpA.drawC (by kernel_rfl) (by kernel_rfl) ?_
      | refine LexH.op0 _ rfl rfl rfl rfl rfl (fun _ => rfl) ?_
      | refine LexH.op1 _ rfl rfl rfl rfl rfl rfl ?_
      | refine LexH.load4 _ rfl rfl rfl rfl rfl rfl (by simp) rfl rfl rfl rfl ?_
      | refine LexH.skip rfl rfl rfl ?_
      | refine LexH.build _ rfl rfl rfl rfl rfl rfl ?_
      | refine LexH.buildSlice _ rfl rfl rfl rfl rfl rfl rfl rfl rfl rfl rfl rfl ?_
      | refine LexH.store rfl rfl rfl rfl rfl rfl rfl rfl rfl rfl rfl ?_
      | refine LexH.sh _ rfl rfl rfl rfl rfl rfl ?_
      | refine LexH.call rfl rfl rfl rfl rfl rfl (by exact ih i hi _) ?_
      | refine LexH.call0 rfl rfl rfl rfl rfl rfl (fun _ => by exact ih i hi _) ?_
      | refine LexH.gsplit _ rfl rfl rfl (fun h => ?_) (fun h => ?_)
      | refine LexH.nil ?_
    refine ⟨trivial, ⟨rfl, rfl, rfl, congrArg (AV.int .i64) (wrap64 (by omega) (by omega)), trivial⟩, ?_⟩
    rw [← cellsL_take hi]
    rfl
  · have hlt : decide (((is.length : Nat) : Int) < ((Oct.cellsL is).length : Nat)) = false := by rw [cellsL_length]; simp
    repeat' first
      | refine WpA.seq ?_
      | refine WpA.region ?_
      | refine WpOps.op _ rfl rfl rfl rfl rfl ?_
      | refine WpOps.box _ rfl rfl rfl rfl rfl ?_
      | refine WpOps.alloc _ rfl rfl rfl rfl rfl rfl ?_
      | refine WpOps.store rfl rfl rfl rfl rfl rfl rfl rfl rfl rfl ?_
      | refine WpOps.skip rfl rfl rfl ?_
      | refine WpOps.build _ rfl rfl rfl rfl rfl ?_
      | refine WpOps.sh _ rfl rfl rfl rfl rfl ?_
      | refine WpOps.gsplit _ rfl rfl rfl (fun h => ?_) (fun h => ?_)
      | refine WpA.block ?_
      | refine WpA.exit ?_
      | refine WpOps.nil ?_
      | refine WpA.ret ?_
      | refine WpA.skip ?_
      | refine WpA.condT rfl ?_
      | refine WpA.condF rfl ?_
      | refine WpA.drawC (by kernel_rfl) (by kernel_rfl) ?_
      | refine LexH.op0 _ rfl rfl rfl rfl rfl (fun _ => rfl) ?_
      | refine LexH.op1 _ rfl rfl rfl rfl rfl rfl ?_
      | refine LexH.load4 _ rfl rfl rfl rfl rfl rfl (by simp) rfl rfl rfl rfl ?_
      | refine LexH.skip rfl rfl rfl ?_
      | refine LexH.build _ rfl rfl rfl rfl rfl rfl ?_
      | refine LexH.buildSlice _ rfl rfl rfl rfl rfl rfl rfl rfl rfl rfl rfl rfl ?_
      | refine LexH.store rfl rfl rfl rfl rfl rfl rfl rfl rfl rfl rfl ?_
      | refine LexH.sh _ rfl rfl rfl rfl rfl rfl ?_
      | refine LexH.gsplit _ rfl rfl rfl (fun h => ?_) (fun h => ?_)
      | refine LexH.nil ?_
    refine WpA.cond false (congrArg AV.bool hlt) (fun h => by cases h) (fun h => ?_)
    clear h
    repeat' first
      | refine WpA.seq ?_
      | refine WpA.region ?_
      | refine WpOps.op _ rfl rfl rfl rfl rfl ?_
      | refine WpOps.box _ rfl rfl rfl rfl rfl ?_
      | refine WpOps.alloc _ rfl rfl rfl rfl rfl rfl ?_
      | refine WpOps.store rfl rfl rfl rfl rfl rfl rfl rfl rfl rfl ?_
      | refine WpOps.skip rfl rfl rfl ?_
      | refine WpOps.build _ rfl rfl rfl rfl rfl ?_
      | refine WpOps.sh _ rfl rfl rfl rfl rfl ?_
      | refine WpOps.gsplit _ rfl rfl rfl (fun h => ?_) (fun h => ?_)
      | refine WpA.block ?_
      | refine WpA.exit ?_
      | refine WpOps.nil ?_
      | refine WpA.ret ?_
      | refine WpA.skip ?_
      | refine WpA.condT rfl ?_
      | refine WpA.condF rfl ?_
      | refine WpA.cond _ rfl (fun h => ?_) (fun h => ?_)
      | refine WpA.draw (by kernel_rfl) ?_
      | refine LexA.op _ rfl rfl rfl rfl rfl ?_
      | refine LexA.skip rfl rfl rfl ?_
      | refine LexA.build _ rfl rfl rfl rfl rfl ?_
      | refine LexA.sh _ rfl rfl rfl rfl rfl ?_
      | refine LexA.gsplit _ rfl rfl rfl (fun h => ?_) (fun h => ?_)
      | refine LexA.nil ?_
    refine retK.all (.inr rfl) rfl rfl (r := .agg [u8 t, .sl .full 0 [], .sl (.row m (q + 2)) 3 (Oct.cellsL is)]) ?_ ⟨?_, rfl⟩
    · rw [List.take_length]
      exact Sub.agg (vs := [u8 t, .sl .full 0 [], .sl (.row m (q + 2)) 3 (Oct.cellsL is)]) ⟨Sub.refl _, Sub.refl _, Sub.row (by omega), trivial⟩
    · rw [List.take_length]; rfl

theorem rValue_A (m : Man) (H : List AObj) (hv0 : 0 ≤ m.v) (hv1 : m.v < 18446744073709551616) (hc : check m = 0) (tg : Tag) : CallsA E 32 [m.av tg] H (Is H (.agg (manO m).cells)) := by
  have hv2 : (m.v.toNat : Int) = m.v := Int.toNat_of_nonneg hv0
  obtain ⟨g1, g2, g3, g4, g5, g6⟩ := check_good hc
  have hsz := manO_size hc (by omega)
  have N1 : ∀ H, CallsA E 54 [.int .u8 1, .int .u64 m.v] H (Is H (.agg (numO 1 m.v.toNat).cells)) := fun H => by
    have := rNum_A 1 m.v.toNat H (by omega)
    rw [hv2] at this
    exact this
  have N2 : ∀ (t : UInt8) (x : Int) H, 0 ≤ x → x ≤ 1099511627776 → CallsA E 54 [u8 t, .int .u64 (IntKind.u64.wrap x)] H (Is H (.agg (numO t x.toNat).cells)) := fun t x H h0 h1 => by
    have := rNum_A t x.toNat H (by omega)
    rw [wrapu64 h0 (by omega)]
    rw [Int.toNat_of_nonneg h0] at this
    exact this
  have hsz2 : Oct.sizeL (manHead m ++ m.fs.map fileO) ≤ 1000000000 := by rw [manO, size_mk] at hsz; omega
  have hsz3 : Oct.sizeL (manHead m) ≤ 1000000000 := by rw [sizeL_append] at hsz2; omega
  have hhead : Oct.cellsL (manHead m) = [(numO 1 m.v.toNat).cells, (numO 2 m.a.toNat).cells, (numO 3 m.b.toNat).cells] := by rw [cellsL_map]; rfl
  obtain ⟨fX, hfX⟩ : ∃ fX : List AObj → AObj, fX = fun L => .cells [.int .u8 128, .sl .full 0 [], .sl (.row (H ++ L).length 2) 3 (Oct.cellsL (manHead m))] := ⟨_, rfl⟩
  have hX0 : ∀ L, ∀ x ∈ [fX L, fX L, .tail (Oct.cellsL (manHead m)).length 3], ∀ z, x ≠ .tail 0 z := fun L x hx z => by
    rw [hfX] at hx
    simp only [List.mem_cons, List.not_mem_nil, or_false] at hx
    rcases hx with rfl | rfl | rfl
    · intro e; cases e
    · intro e; cases e
    · rw [hhead]; intro e; cases e
  have SR : ∀ (L : List AObj) (tg : Tag) (H0 : List AObj), H0.length = (H ++ L).length → CallsA E 53 [.int .u8 128, .sl tg 3 [(numO 1 m.v.toNat).cells, (numO 2 m.a.toNat).cells, (numO 3 m.b.toNat).cells]] H0 (fun e H' => H' = H0 ++ [fX L, fX L, .tail (Oct.cellsL (manHead m)).length 3] ∧ e = .ret (.agg [.int .u8 128, .sl .full 0 [], .sl (.row H.length (L.length + 2)) 3 (Oct.cellsL (manHead m))])) := fun L tg H0 h0 => by
    have := rSeqRow_A 128 tg (manHead m) H.length L.length H0 (by rw [h0]; simp) (by omega)
    rw [h0] at this
    rw [← hhead, hfX]
    exact this
  refine .enter Try.func32 rfl rfl rfl 50 Try.ntmps32 (Nat.le_of_ble_eq_true rfl) ?_
  repeat' first
    | (refine WpA.keep ?_; refine WpA.drawI [H.length + 0] [0, 4, 0, 0, 0, 4, 0, 0, 0, 0, 4, 0, 0, 0, 6, 5, 2] (by kernel_rfl) (by kernel_rfl) ?_)
    | refine WpA.seq ?_
    | refine WpA.region ?_
    | refine WpOps.op _ rfl rfl rfl rfl rfl ?_
    | refine WpOps.box _ rfl rfl rfl rfl rfl ?_
    | refine WpOps.alloc _ rfl rfl rfl rfl rfl rfl ?_
    | refine WpOps.store rfl rfl rfl rfl rfl rfl rfl rfl rfl rfl ?_
    | refine WpOps.skip rfl rfl rfl ?_
    | refine WpOps.build _ rfl rfl rfl rfl rfl ?_
    | refine WpOps.sh _ rfl rfl rfl rfl rfl ?_
    | (refine WpOps.call rfl rfl rfl rfl rfl (by exact N1 _) ?_; rintro _ _ ⟨rfl, rfl⟩)
    | (refine WpOps.call rfl rfl rfl rfl rfl (by exact N2 2 m.a _ g2 g3) ?_; rintro _ _ ⟨rfl, rfl⟩)
    | (refine WpOps.call rfl rfl rfl rfl rfl (by exact N2 3 m.b _ g4 g5) ?_; rintro _ _ ⟨rfl, rfl⟩)
    | (refine LexH.alloc5 2 _ rfl rfl rfl rfl rfl rfl rfl (by simp) rfl ?_)
    | (refine LexH.call6 _ rfl rfl rfl rfl rfl rfl (by exact SR _ _) (by exact hX0 _) ?_)
    | refine WpOps.gsplit _ rfl rfl rfl (fun h => ?_) (fun h => ?_)
    | refine WpA.block ?_
    | refine WpA.exit ?_
    | refine WpOps.nil ?_
    | refine WpA.ret ?_
    | refine WpA.skip ?_
    | refine WpA.condT rfl ?_
    | refine WpA.condF rfl ?_
    | refine WpA.cond _ rfl (fun h => ?_) (fun h => ?_)
    | refine WpA.drawC (by kernel_rfl) (by kernel_rfl) ?_
    | refine LexH.op0 _ rfl rfl rfl rfl rfl (fun _ => rfl) ?_
    | refine LexH.op1 _ rfl rfl rfl rfl rfl rfl ?_
    | refine LexH.load4 _ rfl rfl rfl rfl rfl rfl (by simp) rfl rfl rfl rfl ?_
    | refine LexH.skip rfl rfl rfl ?_
    | refine LexH.build _ rfl rfl rfl rfl rfl rfl ?_
    | refine LexH.buildSlice _ rfl rfl rfl rfl rfl rfl rfl rfl rfl rfl rfl rfl ?_
    | refine LexH.store rfl rfl rfl rfl rfl rfl rfl rfl rfl rfl rfl ?_
    | refine LexH.sh _ rfl rfl rfl rfl rfl rfl ?_
    | refine LexH.call rfl rfl rfl rfl rfl rfl (by exact N1 _) ?_
    | refine LexH.call0 rfl rfl rfl rfl rfl rfl (fun _ => by exact N1 _) ?_
    | refine LexH.call rfl rfl rfl rfl rfl rfl (by exact N2 2 m.a _ g2 g3) ?_
    | refine LexH.call0 rfl rfl rfl rfl rfl rfl (fun _ => by exact N2 2 m.a _ g2 g3) ?_
    | refine LexH.call rfl rfl rfl rfl rfl rfl (by exact N2 3 m.b _ g4 g5) ?_
    | refine LexH.call0 rfl rfl rfl rfl rfl rfl (fun _ => by exact N2 3 m.b _ g4 g5) ?_
    | refine LexH.gsplit _ rfl rfl rfl (fun h => ?_) (fun h => ?_)
    | refine LexH.nil ?_
  clear SR hX0 N1 N2
  obtain ⟨Y, hY⟩ : ∃ Y, Y = fX [.cells (m.cells tg), .cells [.int .u8 0, .sl .full 0 [], .sl .full 0 []], .tail 0 0] := ⟨_, rfl⟩
  have hl := rows_length m.fs
  refine WpA.loopFor m.fs.length (fun i => [(1, .ptr H.length 0 0), (2, .ptr H.length 1 0), (3, .ptr H.length 2 0), (4, .int .i64 (i : Nat))])
    (fun i => H ++ [.cells (m.cells tg), .cells [.int .u8 0, .sl .full 0 [], .sl .full 0 []], .cells [.int .u8 128, .sl .full 0 [], .sl (.row H.length 5) 3 (Oct.cellsL (manHead m ++ (m.fs.take i).map fileO))], Y, Y, .tail (Oct.cellsL (manHead m ++ (m.fs.take i).map fileO)).length 3])
    (fun _ => True) trivial ⟨rfl, rfl, rfl, rfl, trivial⟩ ?_ (fun i hi _ => ?_) (fun _ => ?_)
  · have h0 : manHead m ++ (m.fs.take 0).map fileO = manHead m := by simp
    rw [h0, hY]; rfl
  · have hi0 := rows_get hi
    have hf6 := g6 _ (List.getElem_mem hi)
    have hl1 : m.fs[i].name.length ≤ 140737488355328 := by omega
    have hlt : decide (((i : Nat) : Int) < ((rows m.fs).length : Nat)) = true := by rw [hl]; simp; omega
    have hQ : ∀ H, CallsA E 53 [.int .u8 129, .sl .full 3 [(strO 1 m.fs[i].name).cells, [.int .u8 2, .sl .no 1 (m.fs[i].hs.map byteRow), .sl .full 0 []]]] H (Is H (.agg (fileO m.fs[i]).cells)) := fun H => by
      have hs := fileO_size m.fs[i] (by omega)
      rw [fileO, size_mk] at hs
      have := rSeq_A 129 .full [strO 1 m.fs[i].name, strO 2 m.fs[i].hs] H (by omega)
      refine CallsA.subL (vs := [u8 129, .sl .full 3 (Oct.cellsL [strO 1 m.fs[i].name, strO 2 m.fs[i].hs])]) ⟨Sub.refl _, ?_, trivial⟩ this
      rw [cellsL_map]
      exact Sub.elems ⟨SubL.refl _, ⟨Sub.refl _, Sub.refl _, Sub.empty, trivial⟩, trivial⟩
    have hfit : ((Oct.cellsL (manHead m ++ (m.fs.take i).map fileO)).length + 1) * 56 ≤ 140737488355328 := by
      rw [cellsL_length, List.length_append, List.length_map, List.length_take]
      show (3 + min i m.fs.length + 1) * 56 ≤ _
      omega
    repeat' first
      | refine WpA.seq ?_
      | refine WpA.region ?_
      | refine WpOps.op _ rfl rfl rfl rfl rfl ?_
      | refine WpOps.box _ rfl rfl rfl rfl rfl ?_
      | refine WpOps.alloc _ rfl rfl rfl rfl rfl rfl ?_
      | refine WpOps.store rfl rfl rfl rfl rfl rfl rfl rfl rfl rfl ?_
      | refine WpOps.skip rfl rfl rfl ?_
      | refine WpOps.build _ rfl rfl rfl rfl rfl ?_
      | refine WpOps.sh _ rfl rfl rfl rfl rfl ?_
      | refine WpOps.gsplit _ rfl rfl rfl (fun h => ?_) (fun h => ?_)
      | refine WpA.block ?_
      | refine WpA.exit ?_
      | refine WpOps.nil ?_
      | refine WpA.ret ?_
      | refine WpA.skip ?_
      | refine WpA.condT rfl ?_
      | refine WpA.condF rfl ?_
      | refine WpA.drawC (by kernel_rfl) (by kernel_rfl) ?_
      | refine LexH.op0 _ rfl rfl rfl rfl rfl (fun _ => rfl) ?_
      | refine LexH.op1 _ rfl rfl rfl rfl rfl rfl ?_
      | refine LexH.load4 _ rfl rfl rfl rfl rfl rfl (by simp) rfl rfl rfl rfl ?_
      | refine LexH.skip rfl rfl rfl ?_
      | refine LexH.build _ rfl rfl rfl rfl rfl rfl ?_
      | refine LexH.buildSlice _ rfl rfl rfl rfl rfl rfl rfl rfl rfl rfl rfl rfl ?_
      | refine LexH.store rfl rfl rfl rfl rfl rfl rfl rfl rfl rfl rfl ?_
      | refine LexH.sh _ rfl rfl rfl rfl rfl rfl ?_
      | refine LexH.gsplit _ rfl rfl rfl (fun h => ?_) (fun h => ?_)
      | refine LexH.nil ?_
    refine WpA.cond true (congrArg AV.bool hlt) (fun h => ?_) (fun h => by cases h)
    repeat' first
      | refine WpA.drawI [H.length + 0, H.length + 2] [0, 4, 0, 4, 0, 0, 0, 0, 0, 0, 4, 0, 0, 0, 0, 0, 0, 0, 0, 0, 3, 0, 2] (by kernel_rfl) (by kernel_rfl) ?_
      | refine WpA.seq ?_
      | refine WpA.region ?_
      | refine WpOps.op _ rfl rfl rfl rfl rfl ?_
      | refine WpOps.box _ rfl rfl rfl rfl rfl ?_
      | refine WpOps.alloc _ rfl rfl rfl rfl rfl rfl ?_
      | refine WpOps.store rfl rfl rfl rfl rfl rfl rfl rfl rfl rfl ?_
      | refine WpOps.skip rfl rfl rfl ?_
      | refine WpOps.build _ rfl rfl rfl rfl rfl ?_
      | refine WpOps.sh _ rfl rfl rfl rfl rfl ?_
      | (refine WpOps.call rfl rfl rfl rfl rfl (by exact rStr_A 1 m.fs[i].name _ hl1) ?_; rintro _ _ ⟨rfl, rfl⟩)
      | (refine WpOps.call rfl rfl rfl rfl rfl (by exact rbytes_A m.fs[i].h _) ?_; rintro _ _ ⟨rfl, rfl⟩)
      | (refine WpOps.call rfl rfl rfl rfl rfl (by exact hQ _) ?_; rintro _ _ ⟨rfl, rfl⟩)
      | (refine LexH.elem (m.fs[i]).row rfl rfl rfl rfl rfl rfl rfl rfl rfl rfl (Int.natCast_nonneg i) hi0 ?_)
      | (refine LexH.appR3 rfl rfl rfl rfl rfl rfl rfl rfl (fun k h => by cases h) rfl rfl rfl rfl rfl rfl (by exact cells_one (fileO m.fs[i])) (by exact hfit) (by exact Like.two (fun _ h => h) (fun _ h => h)) ?_)
      | refine WpOps.gsplit _ rfl rfl rfl (fun h => ?_) (fun h => ?_)
      | refine WpA.block ?_
      | refine WpA.exit ?_
      | refine WpOps.nil ?_
      | refine WpA.ret ?_
      | refine WpA.skip ?_
      | refine WpA.condT rfl ?_
      | refine WpA.condF rfl ?_
      | refine WpA.cond _ rfl (fun h => ?_) (fun h => ?_)
      | refine WpA.drawC (by kernel_rfl) (by kernel_rfl) ?_
      | refine LexH.op0 _ rfl rfl rfl rfl rfl (fun _ => rfl) ?_
      | refine LexH.op1 _ rfl rfl rfl rfl rfl rfl ?_
      | refine LexH.load4 _ rfl rfl rfl rfl rfl rfl (by simp) rfl rfl rfl rfl ?_
      | refine LexH.skip rfl rfl rfl ?_
      | refine LexH.build _ rfl rfl rfl rfl rfl rfl ?_
      | refine LexH.buildSlice _ rfl rfl rfl rfl rfl rfl rfl rfl rfl rfl rfl rfl ?_
      | refine LexH.store rfl rfl rfl rfl rfl rfl rfl rfl rfl rfl rfl ?_
      | refine LexH.sh _ rfl rfl rfl rfl rfl rfl ?_
      | refine LexH.call rfl rfl rfl rfl rfl rfl (by exact rStr_A 1 m.fs[i].name _ hl1) ?_
      | refine LexH.call0 rfl rfl rfl rfl rfl rfl (fun _ => by exact rStr_A 1 m.fs[i].name _ hl1) ?_
      | refine LexH.call rfl rfl rfl rfl rfl rfl (by exact rbytes_A m.fs[i].h _) ?_
      | refine LexH.call0 rfl rfl rfl rfl rfl rfl (fun _ => by exact rbytes_A m.fs[i].h _) ?_
      | refine LexH.call rfl rfl rfl rfl rfl rfl (by exact hQ _) ?_
      | refine LexH.call0 rfl rfl rfl rfl rfl rfl (fun _ => by exact hQ _) ?_
      | refine LexH.gsplit _ rfl rfl rfl (fun h => ?_) (fun h => ?_)
      | refine LexH.nil ?_
    have hst : Oct.cellsL (manHead m ++ (m.fs.take i).map fileO) ++ [(fileO m.fs[i]).cells] = Oct.cellsL (manHead m ++ (m.fs.take (i + 1)).map fileO) := by
      rw [List.take_succ_eq_append_getElem hi, cellsL_map, cellsL_map, List.map_append, List.map_append, List.map_append, List.map_append, List.append_assoc]; rfl
    refine ⟨trivial, ⟨rfl, rfl, rfl, congrArg (AV.int .i64) (wrap64 (by omega) (by omega)), trivial⟩, ?_⟩
    rw [← hst]
    rfl
  · have hlt : decide (((m.fs.length : Nat) : Int) < ((rows m.fs).length : Nat)) = false := by rw [hl]; simp
    repeat' first
      | refine WpA.seq ?_
      | refine WpA.region ?_
      | refine WpOps.op _ rfl rfl rfl rfl rfl ?_
      | refine WpOps.box _ rfl rfl rfl rfl rfl ?_
      | refine WpOps.alloc _ rfl rfl rfl rfl rfl rfl ?_
      | refine WpOps.store rfl rfl rfl rfl rfl rfl rfl rfl rfl rfl ?_
      | refine WpOps.skip rfl rfl rfl ?_
      | refine WpOps.build _ rfl rfl rfl rfl rfl ?_
      | refine WpOps.sh _ rfl rfl rfl rfl rfl ?_
      | refine WpOps.gsplit _ rfl rfl rfl (fun h => ?_) (fun h => ?_)
      | refine WpA.block ?_
      | refine WpA.exit ?_
      | refine WpOps.nil ?_
      | refine WpA.ret ?_
      | refine WpA.skip ?_
      | refine WpA.condT rfl ?_
      | refine WpA.condF rfl ?_
      | refine WpA.drawC (by kernel_rfl) (by kernel_rfl) ?_
      | refine LexH.op0 _ rfl rfl rfl rfl rfl (fun _ => rfl) ?_
      | refine LexH.op1 _ rfl rfl rfl rfl rfl rfl ?_
      | refine LexH.load4 _ rfl rfl rfl rfl rfl rfl (by simp) rfl rfl rfl rfl ?_
      | refine LexH.skip rfl rfl rfl ?_
      | refine LexH.build _ rfl rfl rfl rfl rfl rfl ?_
      | refine LexH.buildSlice _ rfl rfl rfl rfl rfl rfl rfl rfl rfl rfl rfl rfl ?_
      | refine LexH.store rfl rfl rfl rfl rfl rfl rfl rfl rfl rfl rfl ?_
      | refine LexH.sh _ rfl rfl rfl rfl rfl rfl ?_
      | refine LexH.gsplit _ rfl rfl rfl (fun h => ?_) (fun h => ?_)
      | refine LexH.nil ?_
    refine WpA.cond false (congrArg AV.bool hlt) (fun h => by cases h) (fun h => ?_)
    clear h
    repeat' first
      | refine WpA.seq ?_
      | refine WpA.region ?_
      | refine WpOps.op _ rfl rfl rfl rfl rfl ?_
      | refine WpOps.box _ rfl rfl rfl rfl rfl ?_
      | refine WpOps.alloc _ rfl rfl rfl rfl rfl rfl ?_
      | refine WpOps.store rfl rfl rfl rfl rfl rfl rfl rfl rfl rfl ?_
      | refine WpOps.skip rfl rfl rfl ?_
      | refine WpOps.build _ rfl rfl rfl rfl rfl ?_
      | refine WpOps.sh _ rfl rfl rfl rfl rfl ?_
      | refine WpOps.gsplit _ rfl rfl rfl (fun h => ?_) (fun h => ?_)
      | refine WpA.block ?_
      | refine WpA.exit ?_
      | refine WpOps.nil ?_
      | refine WpA.ret ?_
      | refine WpA.skip ?_
      | refine WpA.condT rfl ?_
      | refine WpA.condF rfl ?_
      | refine WpA.cond _ rfl (fun h => ?_) (fun h => ?_)
      | refine WpA.draw (by kernel_rfl) ?_
      | refine LexA.op _ rfl rfl rfl rfl rfl ?_
      | refine LexA.skip rfl rfl rfl ?_
      | refine LexA.build _ rfl rfl rfl rfl rfl ?_
      | refine LexA.sh _ rfl rfl rfl rfl rfl ?_
      | refine LexA.gsplit _ rfl rfl rfl (fun h => ?_) (fun h => ?_)
      | refine LexA.nil ?_
    refine retK.sub (.inr rfl) rfl (TrOk.refl H) (L := _) rfl rfl (Sub.agg (vs := octA 128 [] (Oct.cellsL (manHead m ++ m.fs.map fileO))) ⟨Sub.refl _, Sub.empty, ?_, trivial⟩) (Oct.bdA _ (manO m)) ⟨rfl, rfl⟩
    rw [List.take_length]
    exact Sub.untag

/-- The size of a valid manifest. -/
theorem manO_small {m : Man} (h : check m = 0) (hv : m.v.toNat < 18446744073709551616) : (manO m).size ≤ 60000 := by
  obtain ⟨g1, g2, g3, g4, g5, g6⟩ := check_good h
  have s1 := numO_size 1 hv
  have s2 := numO_size 2 (x := m.a.toNat) (by omega)
  have s3 := numO_size 3 (x := m.b.toNat) (by omega)
  have sf : ∀ f : File, f.name.length ≤ 40 → (fileO f).size ≤ 150 := fun f hf => by
    have h2 : f.hs.length = 32 := by simp [File.hs]
    have w1 := wide_le f.name.length (by omega)
    have w2 := wide_le f.hs.length (by omega)
    have e : Oct.sizeL [strO 1 f.name, strO 2 f.hs] = (1 + wide f.name.length + f.name.length) + (1 + wide f.hs.length + f.hs.length) := by
      rw [sizeL_cons, sizeL_cons, strO, strO, leaf_size, leaf_size]; simp [Oct.sizeL]
    have w3 := wide_le (0 + Oct.sizeL [strO 1 f.name, strO 2 f.hs]) (by rw [e]; omega)
    rw [fileO, size_mk, List.length_nil]
    omega
  have s4 : ∀ fs : List File, (∀ f ∈ fs, f.name.length ≤ 40) → Oct.sizeL (fs.map fileO) ≤ 150 * fs.length := by
    intro fs
    induction fs with
    | nil => intro _; simp [Oct.sizeL]
    | cons f fs ih =>
      intro h
      rw [List.map_cons, sizeL_cons, List.length_cons]
      have := sf f (h f List.mem_cons_self)
      have := ih fun g hg => h g (List.mem_cons_of_mem _ hg)
      omega
  have s5 := s4 m.fs g6
  have e : Oct.sizeL (manHead m ++ m.fs.map fileO) ≤ 54 + 150 * m.fs.length := by
    rw [sizeL_append, manHead, sizeL_cons, sizeL_cons, sizeL_cons]
    simp only [Oct.sizeL]
    omega
  have w := wide_le (0 + Oct.sizeL (manHead m ++ m.fs.map fileO)) (by omega)
  rw [manO, size_mk, List.length_nil]
  omega

theorem rEncode_A (m : Man) (H : List AObj) (hb : m.fs.length ≤ 1000000000000000) (hv0 : 0 ≤ m.v) (hv1 : m.v < 18446744073709551616) :
    CallsA E 14 [m.av .no] H (Is H (.tup [.sl .no 1 ((if check m ≠ 0 then [] else (manO m).enc).map byteRow), .int .i64 (check m)])) := by
  have bd : ∀ n (bs : List UInt8) (e : Int), Bd n (.tup [.sl .no 1 (bs.map byteRow), .int .i64 e]) := fun n bs e => .tup fun x hx => by
    simp only [List.mem_cons, List.not_mem_nil, or_false] at hx
    rcases hx with rfl | rfl
    · exact bd_slB _
    · exact .int
  refine .enter Try.func14 rfl rfl rfl 13 Try.ntmps14 (Nat.le_of_ble_eq_true rfl) ?_
  by_cases hc : check m = 0
  · have hsz := manO_size hc (by omega)
    rw [if_neg (by simpa using hc), hc]
    have hC : ∀ H, CallsA E 10 [m.av .no] H (Is H (.int .i64 0)) := fun H => by have := refCheck_A m H hb; rw [hc] at this; exact this
    have hV := fun H => rValue_A m H hv0 hv1 hc .no
    have hP := fun H => rPut_A (manO m) H (by
      have := manO_small hc (by omega)
      omega)
    repeat' first
      | refine WpA.seq ?_
      | refine WpA.region ?_
      | refine WpOps.op _ rfl rfl rfl rfl rfl ?_
      | refine WpOps.box _ rfl rfl rfl rfl rfl ?_
      | refine WpOps.alloc _ rfl rfl rfl rfl rfl rfl ?_
      | refine WpOps.store rfl rfl rfl rfl rfl rfl rfl rfl rfl rfl ?_
      | refine WpOps.skip rfl rfl rfl ?_
      | refine WpOps.build _ rfl rfl rfl rfl rfl ?_
      | refine WpOps.sh _ rfl rfl rfl rfl rfl ?_
      | (refine WpOps.call rfl rfl rfl rfl rfl (by exact hC _) ?_; rintro _ _ ⟨rfl, rfl⟩)
      | (refine WpOps.call rfl rfl rfl rfl rfl (by exact hV _) ?_; rintro _ _ ⟨rfl, rfl⟩)
      | (refine WpOps.call rfl rfl rfl rfl rfl (by exact hP _) ?_; rintro _ _ ⟨rfl, rfl⟩)
      | refine WpOps.gsplit _ rfl rfl rfl (fun h => ?_) (fun h => ?_)
      | refine WpA.block ?_
      | refine WpA.exit ?_
      | refine WpOps.nil ?_
      | refine WpA.ret ?_
      | refine WpA.skip ?_
      | refine WpA.condT rfl ?_
      | refine WpA.condF rfl ?_
      | refine WpA.cond _ rfl (fun h => ?_) (fun h => ?_)
      | refine WpA.draw (by kernel_rfl) ?_
      | refine LexA.op _ rfl rfl rfl rfl rfl ?_
      | refine LexA.skip rfl rfl rfl ?_
      | refine LexA.build _ rfl rfl rfl rfl rfl ?_
      | refine LexA.sh _ rfl rfl rfl rfl rfl ?_
      | refine LexA.call rfl rfl rfl rfl rfl (by exact hC _) ?_
      | refine LexA.call rfl rfl rfl rfl rfl (by exact hV _) ?_
      | refine LexA.call rfl rfl rfl rfl rfl (by exact hP _) ?_
      | refine LexA.gsplit _ rfl rfl rfl (fun h => ?_) (fun h => ?_)
      | refine LexA.nil ?_
    all_goals exact retK.ok rfl rfl rfl (bd _ _ _)
  · rw [if_pos hc]
    repeat' first
      | refine WpA.seq ?_
      | refine WpA.region ?_
      | refine WpOps.op _ rfl rfl rfl rfl rfl ?_
      | refine WpOps.box _ rfl rfl rfl rfl rfl ?_
      | refine WpOps.alloc _ rfl rfl rfl rfl rfl rfl ?_
      | refine WpOps.store rfl rfl rfl rfl rfl rfl rfl rfl rfl rfl ?_
      | refine WpOps.skip rfl rfl rfl ?_
      | refine WpOps.build _ rfl rfl rfl rfl rfl ?_
      | refine WpOps.sh _ rfl rfl rfl rfl rfl ?_
      | (refine WpOps.call rfl rfl rfl rfl rfl (by exact refCheck_A m _ hb) ?_; rintro _ _ ⟨rfl, rfl⟩)
      | refine WpOps.gsplit _ rfl rfl rfl (fun h => ?_) (fun h => ?_)
      | refine WpA.block ?_
      | refine WpA.exit ?_
      | refine WpOps.nil ?_
      | refine WpA.ret ?_
      | refine WpA.skip ?_
      | refine WpA.condT rfl ?_
      | refine WpA.condF rfl ?_
      | refine WpA.cond _ rfl (fun h => ?_) (fun h => ?_)
      | refine WpA.draw (by kernel_rfl) ?_
      | refine LexA.op _ rfl rfl rfl rfl rfl ?_
      | refine LexA.skip rfl rfl rfl ?_
      | refine LexA.build _ rfl rfl rfl rfl rfl ?_
      | refine LexA.sh _ rfl rfl rfl rfl rfl ?_
      | refine LexA.call rfl rfl rfl rfl rfl (by exact refCheck_A m _ hb) ?_
      | refine LexA.gsplit _ rfl rfl rfl (fun h => ?_) (fun h => ?_)
      | refine LexA.nil ?_
    · exact retK.sub (.inr rfl) rfl (TrOk.refl H) (L := _) rfl rfl (Sub.tup (vs := [.sl .no 1 [], .int .i64 (check m)]) ⟨Sub.empty, Sub.refl _, trivial⟩) (bd _ [] _) ⟨rfl, rfl⟩
    all_goals
      exfalso
      simp at h
      exact hc h
end Go.Gp.Try
