/- Part of a proof: GdY6, GdX8 -/
import Derived.Test.YtmacdhglhafldaaDoorK15
import Derived.Test.YtmacdhglhafldaaDoorK25

/- The reference's digests: Sum. -/
namespace Go.Gp.Tryd
open Go.Proofs
set_option linter.unusedVariables false
set_option linter.unusedSimpArgs false
set_option maxHeartbeats 8000000
set_option maxRecDepth 100000

def regAt (b : List UInt8) (q : Nat) : Reg := ((blocksOf b).take q).foldl addBlock reg0
theorem regAt_succ {b : List UInt8} {q : Nat} (h : q < (blocksOf b).length) : regAt b (q + 1) = addBlock (regAt b q) ((blocksOf b)[q]) := by
  rw [regAt, List.take_succ_eq_append_getElem h, List.foldl_append]; rfl
theorem regAt_all (b : List UInt8) : regAt b (blocksOf b).length = regsOf b := by rw [regAt, List.take_length]; rfl
def reg0L : List AV := [.int .u32 1779033703, .int .u32 3144134277, .int .u32 1013904242, .int .u32 2773480762, .int .u32 1359893119, .int .u32 2600822924, .int .u32 528734635, .int .u32 1541459225]
theorem reg0_cells0 : reg0.cells = reg0L := by kernel_rfl
theorem reg0_cells (b : List UInt8) : (regAt b 0).cells = reg0L := by
  have : regAt b 0 = reg0 := by rw [regAt, List.take_zero]; rfl
  rw [this, reg0_cells0]
def zero32 : List AV := List.replicate 32 (.int .u8 0)
theorem bd_partC {m : Nat} {l : List UInt32} (n : Nat) : ∀ a ∈ partC m l, Bd n a := fun a ha => by
  rw [partC, List.mem_append] at ha
  rcases ha with ha | ha
  · obtain ⟨x, _, rfl⟩ := List.mem_map.1 ha; exact .int
  · have := (List.mem_replicate.1 ha).2; subst this; exact .int
theorem partC_nought {l : List UInt32} (h : l.length < 64) : (partC 64 l).set l.length (u32 0) = partC 64 l := by
  rw [partC_set h, partC, partC, List.map_append, List.length_append, List.append_assoc]
  congr 1
  have e : 64 - l.length = (64 - (l.length + 1)) + 1 := by omega
  rw [e, List.replicate_succ]; rfl
theorem bd_set {m : Nat} {l : List UInt32} {i : Nat} {x : UInt32} (n : Nat) : ∀ a ∈ (partC m l).set i (u32 x), Bd n a := fun a ha => by
  rcases List.mem_or_eq_of_mem_set ha with h | rfl
  · exact bd_partC n a h
  · exact .int
theorem refSum_A (b : List UInt8) (H : List AObj) (hb : b.length ≤ 1000000000) : CallsA E 35 [.sl .no 1 (b.map byteRow)] H (Is H (.agg (hashA (sha b)))) := by
  have hP := fun X => padded_A b X hb
  have hTb := fun X => table_A X
  have hkl := kList_len
  obtain ⟨K, hK⟩ : ∃ K, kList = K := ⟨_, rfl⟩
  rw [hK] at hTb hkl
  have hKl : (K.map u32).length = 64 := by rw [List.length_map, hkl]
  have hplen := pad_blocks b
  have hnb : (blocksOf b).length ≤ 100000000 := by rw [pad_len] at hplen; have := padN_lt b.length; omega
  refine .enter Tryd.func35 rfl rfl rfl 245 Tryd.ntmps35 (Nat.le_of_ble_eq_true rfl) ?_
  refine WpA.cutS [(0, .sl .no 1 (b.map byteRow)), (2, .ptr H.length 0 0)] (H ++ [.cells zero32]) (by
    repeat' first
      | refine WpA.region ?_
      | refine WpOps.alloc _ rfl rfl rfl rfl rfl rfl ?_
      | refine WpOps.nil ?_
    exact ⟨rfl, ⟨rfl, rfl, trivial⟩, rfl⟩) ?_
  refine WpA.cutS [(0, .sl .no 1 (b.map byteRow)), (2, .ptr H.length 0 0), (3, .ptr H.length 1 0)] (H ++ [.cells zero32, .cells (K.map u32)]) (by
    repeat' first
      | (refine WpOps.u1 rfl rfl (.storeGL (j := 1) rfl rfl rfl rfl (by exact one_u32) rfl (by exact hKl) (by rw [hKl]; rfl)) ?_)
      | refine WpA.region ?_
      | refine WpOps.alloc _ rfl rfl rfl rfl rfl rfl ?_
      | (refine WpOps.call rfl rfl rfl rfl rfl (by exact hTb _) ?_; rintro _ _ ⟨rfl, rfl⟩)
      | refine WpOps.nil ?_
    exact ⟨rfl, ⟨rfl, rfl, rfl, trivial⟩, rfl⟩) ?_
  refine WpA.freezeP (d := 3) (j := 1) rfl rfl ?_
  refine WpA.cutS [(0, .sl .no 1 (b.map byteRow)), (2, .ptr H.length 0 0), (3, .rp (K.map u32)), (4, .ptr H.length 2 0)] (H ++ [.cells zero32, .dead, .cells reg0L]) (by
    repeat' first
      | (refine WpOps.build reg0L rfl rfl rfl rfl (by kernel_rfl) ?_)
      | refine WpA.region ?_
      | refine WpOps.alloc _ rfl rfl rfl rfl rfl rfl ?_
      | refine WpOps.store rfl rfl rfl rfl rfl rfl rfl rfl rfl rfl ?_
      | refine WpOps.nil ?_
    exact ⟨rfl, ⟨rfl, rfl, rfl, rfl, trivial⟩, rfl⟩) ?_
  refine WpA.cutS [(2, .ptr H.length 0 0), (3, .rp (K.map u32)), (4, .ptr H.length 2 0), (5, .sl .no 1 ((pad b).map byteRow))] (H ++ [.cells zero32, .dead, .cells reg0L]) (by
    repeat' first
      | refine WpA.region ?_
      | refine WpOps.op _ rfl rfl rfl rfl rfl ?_
      | (refine WpOps.call rfl rfl rfl rfl rfl (by exact hP _) ?_; rintro _ _ ⟨rfl, rfl⟩)
      | refine WpOps.nil ?_
    exact ⟨rfl, ⟨rfl, rfl, rfl, rfl, trivial⟩, rfl⟩) ?_
  rw [← reg0_cells b]
  refine WpA.cutS [(2, .ptr H.length 0 0), (4, .ptr H.length 2 0)] (H ++ [.cells zero32, .dead, .cells (regsOf b).cells]) ?_ ?_
  · obtain ⟨Pb, hPb⟩ : ∃ Pb, (pad b).map byteRow = Pb := ⟨_, rfl⟩
    have hPl : Pb.length = 64 * (blocksOf b).length := by rw [← hPb, List.length_map, hplen]
    rw [hPb]
    repeat' first
      | refine WpA.seq ?_
      | refine WpA.region ?_
      | refine WpOps.op _ rfl rfl rfl rfl rfl ?_
      | refine WpA.block ?_
      | refine WpOps.nil ?_
    refine WpA.loopG (blocksOf b).length (fun q => [(2, .ptr H.length 0 0), (3, .rp (K.map u32)), (4, .ptr H.length 2 0), (5, .sl .no 1 Pb), (6, .int .i64 (64 * q : Nat))]) (fun q => H ++ [.cells zero32, .dead, .cells (regAt b q).cells]) (fun _ => True) trivial ⟨rfl, rfl, rfl, rfl, rfl, trivial⟩ rfl (fun _ _ => by simp) (fun q hq _ => ?_) (fun q hq _ => ⟨.ptr (by simp), .rp bd_u32, .ptr (by simp), by rw [← hPb]; exact bd_slB _, .int, trivial⟩) (fun q hq _ => ?_) (fun _ => ?_) (fun _ => ⟨rfl, rfl, rfl, rfl, rfl, trivial⟩)
    · refine TrOk.app fun k o hk => ?_
      rcases k with _ | _ | _ | k
      · exact .inl hk
      · exact .inl hk
      · injection hk with hk; subst hk; exact .inr (obd_cells (bd_u32 (l := (regAt b (q + 1)).list)))
      · cases hk
    · have hlt : decide (((64 * q : Nat) : Int) < ((Pb.length : Nat) : Int)) = true := decide_eq_true (by rw [hPl]; omega)
      rw [regAt_succ hq]
      have hby := fun (k : Nat) (hk : k < 64) => pad_byte hq hk
      obtain ⟨R, hR⟩ : ∃ R, regAt b q = R := ⟨_, rfl⟩
      have hBl := block_len hq
      obtain ⟨B, hB⟩ : ∃ B, (blocksOf b)[q] = B := ⟨_, rfl⟩
      rw [hR, hB]
      rw [hB] at hBl hby
      have hsl := schedL_len B
      let T0 : Slots := [(2, .ptr H.length 0 0), (3, .rp (K.map u32)), (4, .ptr H.length 2 0), (5, .sl .no 1 Pb), (6, .int .i64 (64 * q : Nat))]
      let HW : List AV → List AObj := fun w => H ++ [.cells zero32, .dead, .cells R.cells, .cells w]
      have hHl : ∀ w w' : List AV, (HW w).length = (HW w').length := fun w w' => by show (H ++ _).length = (H ++ _).length; simp
      have hTr : ∀ w w' : List AV, (∀ n, ∀ a ∈ w', Bd n a) → TrOk (HW w) (HW w') := fun w w' hw => TrOk.app fun k o hk => by
        rcases k with _ | _ | _ | _ | k
        · exact .inl hk
        · exact .inl hk
        · exact .inl hk
        · injection hk with hk; subst hk; exact .inr (obd_cells (hw _))
        · cases hk
      have hPbd : ∀ n, Bd n (.sl .no 1 Pb) := fun n => by rw [← hPb]; exact bd_slB _
      refine WpA.cutS T0 (H ++ [.cells zero32, .dead, .cells R.cells]) (by
        repeat' first
          | refine WpA.condT (congrArg AV.bool hlt) ?_
          | refine WpA.seq ?_
          | refine WpA.region ?_
          | refine WpOps.op _ rfl rfl rfl rfl rfl ?_
          | refine WpOps.nil ?_
          | refine WpA.skip ?_
        exact ⟨rfl, ⟨rfl, rfl, rfl, rfl, rfl, trivial⟩, rfl⟩) ?_
      refine WpA.cutS [(2, .ptr H.length 0 0), (3, .rp (K.map u32)), (4, .ptr H.length 2 0), (5, .sl .no 1 Pb), (6, .int .i64 (64 * q : Nat))] (H ++ [.cells zero32, .dead, .cells (addBlock R B).cells, .cells (partC 64 (schedL B 64)), .cells (rounds (schedL B 64) R 64).cells]) ?_ ?_
      · refine WpA.block ?_
        refine WpA.cutS ([(2, .ptr H.length 0 0), (3, .rp (K.map u32)), (4, .ptr H.length 2 0), (5, .sl .no 1 Pb), (6, .int .i64 (64 * q : Nat)), (7, .ptr H.length 3 0)]) (HW (partC 64 (schedL B 0))) (by
          repeat' first
            | refine WpA.region ?_
            | refine WpOps.alloc _ rfl rfl rfl rfl rfl rfl ?_
            | refine WpOps.nil ?_
          exact ⟨rfl, ⟨rfl, rfl, rfl, rfl, rfl, rfl, trivial⟩, rfl⟩) ?_
        refine WpA.cutS ([(2, .ptr H.length 0 0), (3, .rp (K.map u32)), (4, .ptr H.length 2 0), (5, .sl .no 1 Pb), (6, .int .i64 (64 * q : Nat)), (7, .ptr H.length 3 0)]) (HW (partC 64 (schedL B 16))) ?_ ?_
        · repeat' first
            | refine WpA.seq ?_
            | refine WpA.region ?_
            | refine WpOps.op _ rfl rfl rfl rfl rfl ?_
            | refine WpA.block ?_
            | refine WpOps.nil ?_
          refine WpA.loopG 16 (fun i => [(2, .ptr H.length 0 0), (3, .rp (K.map u32)), (4, .ptr H.length 2 0), (5, .sl .no 1 Pb), (6, .int .i64 (64 * q : Nat)), (7, .ptr H.length 3 0), (8, .int .i64 (i : Nat))]) (fun i => HW (partC 64 (schedL B i))) (fun _ => True) trivial ⟨rfl, rfl, rfl, rfl, rfl, rfl, rfl, trivial⟩ rfl (fun _ _ => hHl _ _) (fun i hi _ => hTr _ _ fun n => bd_partC n) (fun i hi _ => ⟨.ptr (by simp [HW]), .rp bd_u32, .ptr (by simp [HW]), hPbd _, .int, .ptr (by simp [HW]), .int, trivial⟩) (fun i hi _ => ?_) (fun _ => ?_) (fun _ => ⟨rfl, rfl, rfl, rfl, rfl, rfl, rfl, trivial⟩)
          · have hl2 : decide (((i : Nat) : Int) < 16) = true := decide_eq_true (by omega)
            have hls := hsl i
            refine WpA.cutS ([(2, .ptr H.length 0 0), (3, .rp (K.map u32)), (4, .ptr H.length 2 0), (5, .sl .no 1 Pb), (6, .int .i64 (64 * q : Nat)), (7, .ptr H.length 3 0), (8, .int .i64 (i : Nat))]) (HW (partC 64 (schedL B i))) (by
              repeat' first
                | refine WpA.condT (congrArg AV.bool hl2) ?_
                | refine WpA.seq ?_
                | refine WpA.region ?_
                | refine WpOps.op _ rfl rfl rfl rfl rfl ?_
                | refine WpOps.nil ?_
                | refine WpA.skip ?_
              exact ⟨rfl, ⟨rfl, rfl, rfl, rfl, rfl, rfl, rfl, trivial⟩, rfl⟩) ?_
            refine WpA.cutS ([(2, .ptr H.length 0 0), (3, .rp (K.map u32)), (4, .ptr H.length 2 0), (5, .sl .no 1 Pb), (6, .int .i64 (64 * q : Nat)), (7, .ptr H.length 3 0), (8, .int .i64 (i : Nat))]) (HW (partC 64 (schedL B (i + 1)))) ?_ ?_
            · refine WpA.block ?_
              repeat' first
                | refine WpA.seq ?_
                | refine WpA.region ?_
                | refine WpOps.op _ rfl rfl rfl rfl rfl ?_
                | refine WpA.block ?_
                | refine WpOps.nil ?_
              have hp0 := partC_nought (l := schedL B i) (by omega)
              have hp1 := partC_set (n := 64) (l := schedL B i) (by omega) (wordOf B i)
              rw [hls] at hp0 hp1
              have hCl : (partC 64 (schedL B i)).length = 64 := partC_len (by omega)
              refine WpA.loopG 4 (fun j => [(2, .ptr H.length 0 0), (3, .rp (K.map u32)), (4, .ptr H.length 2 0), (5, .sl .no 1 Pb), (6, .int .i64 (64 * q : Nat)), (7, .ptr H.length 3 0), (8, .int .i64 (i : Nat)), (9, .int .i64 (j : Nat))]) (fun j => HW ((partC 64 (schedL B i)).set i (u32 (wpart B i j)))) (fun _ => True) trivial ⟨rfl, rfl, rfl, rfl, rfl, rfl, rfl, rfl, trivial⟩ (by
                show HW (partC 64 (schedL B i)) = HW ((partC 64 (schedL B i)).set i (u32 0))
                rw [hp0]) (fun _ _ => hHl _ _) (fun j hj _ => hTr _ _ fun n => bd_set n) (fun j hj _ => ⟨.ptr (by simp [HW]), .rp bd_u32, .ptr (by simp [HW]), hPbd _, .int, .ptr (by simp [HW]), .int, .int, trivial⟩) (fun j hj _ => ?_) (fun _ => ?_) (fun _ => ⟨rfl, rfl, rfl, rfl, rfl, rfl, rfl, rfl, trivial⟩)
              · have hl3 : decide (((j : Nat) : Int) < 4) = true := decide_eq_true (by omega)
                obtain ⟨x, hx⟩ : ∃ x, byteAt B (4 * i + j) = x := ⟨_, rfl⟩
                have hby1 := hby (4 * i + j) (by omega)
                rw [hx] at hby1
                have ei : IntKind.i64.wrap (IntKind.i64.wrap (((64 * q : Nat) : Int) + IntKind.i64.wrap (4 * ((i : Nat) : Int))) + ((j : Nat) : Int)) = ((64 * q + (4 * i + j) : Nat) : Int) := by
                  rw [wrap64 (x := 4 * ((i : Nat) : Int)) (by omega) (by omega), wrap64 (x := ((64 * q : Nat) : Int) + 4 * ((i : Nat) : Int)) (by omega) (by omega), wrap64 (by omega) (by omega)]; omega
                have h0 : 0 ≤ IntKind.i64.wrap (IntKind.i64.wrap (((64 * q : Nat) : Int) + IntKind.i64.wrap (4 * ((i : Nat) : Int))) + ((j : Nat) : Int)) := by rw [ei]; exact Int.natCast_nonneg _
                have hgl : Pb[(IntKind.i64.wrap (IntKind.i64.wrap (((64 * q : Nat) : Int) + IntKind.i64.wrap (4 * ((i : Nat) : Int))) + ((j : Nat) : Int))).toNat]? = some [u8 x] := by
                  rw [ei, Int.toNat_natCast, ← hPb, List.getElem?_map, hby1]; rfl
                have hv : IntKind.u32.wrap (IntKind.u32.wrap (((wpart B i j).toNat : Int) * 256) + IntKind.u32.wrap ((x.toNat : Nat) : Int)) = ((wpart B i (j + 1)).toNat : Int) := by
                  have e : (256 : Int) = (((256 : UInt32).toNat : Nat) : Int) := rfl
                  rw [e, w32_mul, w32_byte, w32_add, wpart, hx]
                obtain ⟨C, hC⟩ : ∃ C, partC 64 (schedL B i) = C := ⟨_, rfl⟩
                rw [hC] at hCl ⊢
                have hg : (C.set i (u32 (wpart B i j)))[i]? = some (u32 (wpart B i j)) := by rw [List.getElem?_set]; simp; omega
                have hlen : i < (C.set i (u32 (wpart B i j))).length := by rw [List.length_set]; omega
                obtain ⟨D, hD⟩ : ∃ D, C.set i (u32 (wpart B i j)) = D := ⟨_, rfl⟩
                have hst : C.set i (u32 (wpart B i (j + 1))) = D.set i (u32 (wpart B i (j + 1))) := by rw [← hD, List.set_set]
                rw [hst]
                rw [hD] at hg hlen ⊢
                have hL1 : (HW D)[H.length + 3]? = some (.cells D) := by show (H ++ _)[_]? = _; rw [List.getElem?_append_right (by omega)]; simp
                refine WpA.cutS ([(2, .ptr H.length 0 0), (3, .rp (K.map u32)), (4, .ptr H.length 2 0), (5, .sl .no 1 Pb), (6, .int .i64 (64 * q : Nat)), (7, .ptr H.length 3 0), (8, .int .i64 (i : Nat)), (9, .int .i64 (j : Nat))]) (HW D) (by
                  repeat' first
                    | refine WpA.condT (congrArg AV.bool hl3) ?_
                    | refine WpA.seq ?_
                    | refine WpA.region ?_
                    | refine WpOps.op _ rfl rfl rfl rfl rfl ?_
                    | refine WpOps.nil ?_
                    | refine WpA.skip ?_
                  exact ⟨rfl, ⟨rfl, rfl, rfl, rfl, rfl, rfl, rfl, rfl, trivial⟩, rfl⟩) ?_
                refine WpA.cutS ([(2, .ptr H.length 0 0), (3, .rp (K.map u32)), (4, .ptr H.length 2 0), (5, .sl .no 1 Pb), (6, .int .i64 (64 * q : Nat)), (7, .ptr H.length 3 0), (8, .int .i64 (i : Nat)), (9, .int .i64 (j : Nat))]) (HW (D.set i (u32 (wpart B i (j + 1))))) (by
                  repeat' first
                    | (refine LexH.p0 rfl rfl rfl rfl (fun _ => .elemP i rfl rfl rfl rfl rfl rfl (by omega)) ?_)
                    | (refine LexH.p1 rfl rfl rfl rfl (.loadN rfl rfl hL1 rfl rfl rfl hg) ?_)
                    | (refine LexH.elem [u8 x] rfl rfl rfl rfl rfl rfl rfl rfl rfl rfl h0 hgl ?_)
                    | (refine LexH.u2 rfl rfl rfl (.storeL (j := 3) rfl rfl rfl rfl rfl rfl rfl rfl hlen) ?_)
                    | refine WpA.block ?_
                    | refine WpA.drawC (by kernel_rfl) (by kernel_rfl) ?_
                    | refine LexH.op0 _ rfl rfl rfl rfl rfl (fun _ => rfl) ?_
                    | refine LexH.op1 _ rfl rfl rfl rfl rfl rfl ?_
                    | refine LexH.nil ?_
                  exact ⟨rfl, ⟨rfl, rfl, rfl, rfl, rfl, rfl, rfl, rfl, trivial⟩, by rw [hv]; rfl⟩) ?_
                repeat' first
                  | refine WpA.region ?_
                  | refine WpOps.op _ rfl rfl rfl rfl rfl ?_
                  | refine WpOps.nil ?_
                exact ⟨trivial, ⟨rfl, rfl, rfl, rfl, rfl, rfl, rfl, congrArg (AV.int .i64) (wrap64 (by omega) (by omega)), trivial⟩, [], by rw [List.append_nil]⟩
              · have hl3 : decide (((4 : Nat) : Int) < 4) = false := by decide
                rw [wpart4, hp1, ← schedW B hi]
                repeat' first
                  | refine WpA.condF (congrArg AV.bool hl3) ?_
                  | refine WpA.seq ?_
                  | refine WpA.region ?_
                  | refine WpOps.op _ rfl rfl rfl rfl rfl ?_
                  | refine WpA.exit ?_
                  | refine WpOps.nil ?_
                exact ⟨rfl, ⟨rfl, rfl, rfl, rfl, rfl, rfl, rfl, trivial⟩, rfl⟩
            · repeat' first
                | refine WpA.region ?_
                | refine WpOps.op _ rfl rfl rfl rfl rfl ?_
                | refine WpOps.nil ?_
              exact ⟨trivial, ⟨rfl, rfl, rfl, rfl, rfl, rfl, congrArg (AV.int .i64) (wrap64 (by omega) (by omega)), trivial⟩, [], by rw [List.append_nil]⟩
          · have hl2 : decide (((16 : Nat) : Int) < 16) = false := by decide
            repeat' first
              | refine WpA.condF (congrArg AV.bool hl2) ?_
              | refine WpA.seq ?_
              | refine WpA.region ?_
              | refine WpOps.op _ rfl rfl rfl rfl rfl ?_
              | refine WpA.exit ?_
              | refine WpOps.nil ?_
            exact ⟨rfl, ⟨rfl, rfl, rfl, rfl, rfl, rfl, trivial⟩, rfl⟩
        · refine WpA.cutS [(2, .ptr H.length 0 0), (3, .rp (K.map u32)), (4, .ptr H.length 2 0), (5, .sl .no 1 Pb), (6, .int .i64 (64 * q : Nat)), (7, .ptr H.length 3 0)] (HW (partC 64 (schedL B 64))) ?_ ?_
          · repeat' first
              | refine WpA.seq ?_
              | refine WpA.region ?_
              | refine WpOps.op _ rfl rfl rfl rfl rfl ?_
              | refine WpA.block ?_
              | refine WpOps.nil ?_
            refine WpA.loopG 48 (fun r => [(2, .ptr H.length 0 0), (3, .rp (K.map u32)), (4, .ptr H.length 2 0), (5, .sl .no 1 Pb), (6, .int .i64 (64 * q : Nat)), (7, .ptr H.length 3 0), (10, .int .i64 (16 + r : Nat))]) (fun r => HW (partC 64 (schedL B (16 + r)))) (fun _ => True) trivial ⟨rfl, rfl, rfl, rfl, rfl, rfl, rfl, trivial⟩ rfl (fun _ _ => hHl _ _) (fun i hi _ => hTr _ _ fun n => bd_partC n) (fun i hi _ => ⟨.ptr (by simp [HW]), .rp bd_u32, .ptr (by simp [HW]), hPbd _, .int, .ptr (by simp [HW]), .int, trivial⟩) (fun r hr _ => ?_) (fun _ => ?_) (fun _ => ⟨rfl, rfl, rfl, rfl, rfl, rfl, rfl, trivial⟩)
            · obtain ⟨i, hie⟩ : ∃ i, 16 + r = i := ⟨_, rfl⟩
              have hie2 : 16 + (r + 1) = i + 1 := by omega
              have hi16 : 16 ≤ i := by omega
              have hi64 : i < 64 := by omega
              rw [hie2, hie]
              have hls := hsl i
              have hl2 : decide (((i : Nat) : Int) < 64) = true := decide_eq_true (by omega)
              refine WpA.cutS [(2, .ptr H.length 0 0), (3, .rp (K.map u32)), (4, .ptr H.length 2 0), (5, .sl .no 1 Pb), (6, .int .i64 (64 * q : Nat)), (7, .ptr H.length 3 0), (10, .int .i64 (i : Nat))] (HW (partC 64 (schedL B i))) (by
                repeat' first
                  | refine WpA.condT (congrArg AV.bool hl2) ?_
                  | refine WpA.seq ?_
                  | refine WpA.region ?_
                  | refine WpOps.op _ rfl rfl rfl rfl rfl ?_
                  | refine WpOps.nil ?_
                  | refine WpA.skip ?_
                exact ⟨rfl, ⟨rfl, rfl, rfl, rfl, rfl, rfl, rfl, trivial⟩, rfl⟩) ?_
              refine WpA.cutS [(2, .ptr H.length 0 0), (3, .rp (K.map u32)), (4, .ptr H.length 2 0), (5, .sl .no 1 Pb), (6, .int .i64 (64 * q : Nat)), (7, .ptr H.length 3 0), (10, .int .i64 (i : Nat))] (HW (partC 64 (schedL B (i + 1)))) ?_ ?_
              · refine WpA.block ?_
                have hg := fun (p : Nat) (hp : p < i) => partC_get (n := 64) (l := schedL B i) (q := p) (by rw [hls]; exact hp)
                have hs := partC_set (n := 64) (l := schedL B i) (by omega) (mixW (schedL B i) i)
                rw [hls, ← schedX B hi16] at hs
                have hCl : (partC 64 (schedL B i)).length = 64 := partC_len (by omega)
                have eq : ∀ p : Nat, p ≤ 16 → IntKind.i64.wrap (((i : Nat) : Int) - (p : Nat)) = ((i - p : Nat) : Int) := fun p hp => by rw [wrap64 (by omega) (by omega)]; omega
                have T := fun (x : UInt32) (k : Nat) (h0 : 0 < k) (h1 : k < 32) X => rrot_A x k h0 h1 X
                rw [mixW] at hs
                obtain ⟨y, hy⟩ : ∃ y, (schedL B i).getD (i - 2) 0 = y := ⟨_, rfl⟩
                obtain ⟨x, hx⟩ : ∃ x, (schedL B i).getD (i - 15) 0 = x := ⟨_, rfl⟩
                obtain ⟨u, hu⟩ : ∃ u, (schedL B i).getD (i - 7) 0 = u := ⟨_, rfl⟩
                obtain ⟨v, hv⟩ : ∃ v, (schedL B i).getD (i - 16) 0 = v := ⟨_, rfl⟩
                have g2 := hg (i - 2) (by omega)
                have g15 := hg (i - 15) (by omega)
                have g7 := hg (i - 7) (by omega)
                have g16 := hg (i - 16) (by omega)
                rw [hy] at g2
                rw [hx] at g15
                rw [hu] at g7
                rw [hv] at g16
                rw [hy, hx, hu, hv] at hs
                obtain ⟨C, hC⟩ : ∃ C, partC 64 (schedL B i) = C := ⟨_, rfl⟩
                rw [hC] at g2 g15 g7 g16 hs hCl ⊢
                have hL1 : (HW C)[H.length + 3]? = some (.cells C) := by show (H ++ _)[_]? = _; rw [List.getElem?_append_right (by omega)]; simp
                have hlen : i < C.length := by omega
                refine WpA.cutS [(2, .ptr H.length 0 0), (3, .rp (K.map u32)), (4, .ptr H.length 2 0), (5, .sl .no 1 Pb), (6, .int .i64 (64 * q : Nat)), (7, .ptr H.length 3 0), (10, .int .i64 (i : Nat)), (11, u32 (turn x 7 ^^^ turn x 18 ^^^ shr32 x 3))] (HW C) (by
                  repeat' first
                    | (refine LexA.p1 rfl rfl rfl (.elemP (i - 15) rfl rfl rfl rfl rfl (by exact eq 15 (by decide)) (by omega)) ?_)
                    | (refine LexA.p1 rfl rfl rfl (.loadN rfl rfl hL1 rfl rfl rfl g15) ?_)
                    | refine WpA.draw (by kernel_rfl) ?_
                    | refine LexA.op _ rfl rfl rfl rfl rfl ?_
                    | refine LexA.sh _ rfl rfl rfl rfl rfl ?_
                    | refine LexA.call rfl rfl rfl rfl rfl (by exact T x 7 (by decide) (by decide) _) ?_
                    | refine LexA.call rfl rfl rfl rfl rfl (by exact T x 18 (by decide) (by decide) _) ?_
                    | refine LexA.nil ?_
                  refine ⟨rfl, ⟨rfl, rfl, rfl, rfl, rfl, rfl, rfl, congrArg (AV.int .u32) ?_, trivial⟩, rfl⟩
                  simp only [w32_xor, w32_shr _ 3 (by decide)]) ?_
                refine WpA.cutS [(2, .ptr H.length 0 0), (3, .rp (K.map u32)), (4, .ptr H.length 2 0), (5, .sl .no 1 Pb), (6, .int .i64 (64 * q : Nat)), (7, .ptr H.length 3 0), (10, .int .i64 (i : Nat)), (11, u32 (turn x 7 ^^^ turn x 18 ^^^ shr32 x 3)), (12, u32 (turn y 17 ^^^ turn y 19 ^^^ shr32 y 10))] (HW C) (by
                  repeat' first
                    | (refine LexA.p1 rfl rfl rfl (.elemP (i - 2) rfl rfl rfl rfl rfl (by exact eq 2 (by decide)) (by omega)) ?_)
                    | (refine LexA.p1 rfl rfl rfl (.loadN rfl rfl hL1 rfl rfl rfl g2) ?_)
                    | refine WpA.draw (by kernel_rfl) ?_
                    | refine LexA.op _ rfl rfl rfl rfl rfl ?_
                    | refine LexA.sh _ rfl rfl rfl rfl rfl ?_
                    | refine LexA.call rfl rfl rfl rfl rfl (by exact T y 17 (by decide) (by decide) _) ?_
                    | refine LexA.call rfl rfl rfl rfl rfl (by exact T y 19 (by decide) (by decide) _) ?_
                    | refine LexA.nil ?_
                  refine ⟨rfl, ⟨rfl, rfl, rfl, rfl, rfl, rfl, rfl, rfl, congrArg (AV.int .u32) ?_, trivial⟩, rfl⟩
                  simp only [w32_xor, w32_shr _ 10 (by decide)]) ?_
                repeat' first
                  | (refine LexH.p0 rfl rfl rfl rfl (fun _ => .elemP (i - 7) rfl rfl rfl rfl rfl (by exact eq 7 (by decide)) (by omega)) ?_)
                  | (refine LexH.p0 rfl rfl rfl rfl (fun _ => .elemP (i - 16) rfl rfl rfl rfl rfl (by exact eq 16 (by decide)) (by omega)) ?_)
                  | (refine LexH.p0 rfl rfl rfl rfl (fun _ => .elemP i rfl rfl rfl rfl rfl rfl hi64) ?_)
                  | (refine LexH.p1 rfl rfl rfl rfl (.loadN rfl rfl hL1 rfl rfl rfl (by first | exact g7 | exact g16)) ?_)
                  | (refine LexH.u2 rfl rfl rfl (.storeL (j := 3) rfl rfl rfl rfl rfl rfl rfl rfl hlen) ?_)
                  | refine WpA.drawC (by kernel_rfl) (by kernel_rfl) ?_
                  | refine LexH.op0 _ rfl rfl rfl rfl rfl (fun _ => rfl) ?_
                  | refine LexH.nil ?_
                refine ⟨rfl, ⟨rfl, rfl, rfl, rfl, rfl, rfl, rfl, trivial⟩, ?_⟩
                rw [← hs]
                simp only [w32_add]
                rfl
              · repeat' first
                  | refine WpA.region ?_
                  | refine WpOps.op _ rfl rfl rfl rfl rfl ?_
                  | refine WpOps.nil ?_
                exact ⟨trivial, ⟨rfl, rfl, rfl, rfl, rfl, rfl, congrArg (AV.int .i64) (wrap64 (by omega) (by omega)), trivial⟩, [], by rw [List.append_nil]⟩
            · have hl2 : decide (((16 + 48 : Nat) : Int) < 64) = false := by decide
              repeat' first
                | refine WpA.condF (congrArg AV.bool hl2) ?_
                | refine WpA.seq ?_
                | refine WpA.region ?_
                | refine WpOps.op _ rfl rfl rfl rfl rfl ?_
                | refine WpA.exit ?_
                | refine WpOps.nil ?_
              exact ⟨rfl, ⟨rfl, rfl, rfl, rfl, rfl, rfl, trivial⟩, rfl⟩
          · have hL2 : ∀ w, (HW w)[H.length + 2]? = some (.cells R.cells) := fun w => by show (H ++ _)[_]? = _; rw [List.getElem?_append_right (by omega)]; simp
            obtain ⟨ws, hws⟩ : ∃ ws, schedL B 64 = ws := ⟨_, rfl⟩
            have hwl : ws.length = 64 := by rw [← hws]; exact hsl 64
            have hpf := partC_full (n := 64) (hsl 64)
            rw [addBlock]
            rw [hws] at hpf ⊢
            rw [hpf]
            obtain ⟨W, hW⟩ : ∃ W, ws.map u32 = W := ⟨_, rfl⟩
            have hWg : ∀ i, i < 64 → W[i]? = some (u32 (ws.getD i 0)) := fun i hi => by rw [← hW]; exact map_get (by omega)
            rw [hW]
            refine WpA.cutS [(2, .ptr H.length 0 0), (3, .rp (K.map u32)), (4, .ptr H.length 2 0), (5, .sl .no 1 Pb), (6, .int .i64 (64 * q : Nat)), (7, .ptr H.length 3 0), (13, u32 R.a), (14, u32 R.b), (15, u32 R.c), (16, u32 R.d), (17, u32 R.e), (18, u32 R.f), (19, u32 R.g), (20, u32 R.h)] (HW W) (by
              show WpA E none 245 _ _ _ (H ++ [.cells zero32, .dead, .cells R.cells, .cells W])
              repeat' first
                | (refine LexA.elemA _ rfl rfl rfl rfl rfl rfl rfl (by decide) (by decide) rfl ?_)
                | refine WpA.draw (by kernel_rfl) ?_
                | refine LexA.op _ rfl rfl rfl rfl rfl ?_
                | refine LexA.nil ?_
              exact ⟨rfl, ⟨rfl, rfl, rfl, rfl, rfl, rfl, rfl, rfl, rfl, rfl, rfl, rfl, rfl, rfl, trivial⟩, rfl⟩) ?_
            refine WpA.cutS [(2, .ptr H.length 0 0), (3, .rp (K.map u32)), (4, .ptr H.length 2 0), (5, .sl .no 1 Pb), (6, .int .i64 (64 * q : Nat)), (7, .ptr H.length 3 0), (13, u32 (rounds ws R 64).a), (14, u32 (rounds ws R 64).b), (15, u32 (rounds ws R 64).c), (16, u32 (rounds ws R 64).d), (17, u32 (rounds ws R 64).e), (18, u32 (rounds ws R 64).f), (19, u32 (rounds ws R 64).g), (20, u32 (rounds ws R 64).h)] (HW W) ?_ ?_
            · repeat' first
                | refine WpA.seq ?_
                | refine WpA.region ?_
                | refine WpOps.op _ rfl rfl rfl rfl rfl ?_
                | refine WpA.block ?_
                | refine WpOps.nil ?_
              refine WpA.loopG 64 (fun i => [(2, .ptr H.length 0 0), (3, .rp (K.map u32)), (4, .ptr H.length 2 0), (5, .sl .no 1 Pb), (6, .int .i64 (64 * q : Nat)), (7, .ptr H.length 3 0), (13, u32 (rounds ws R i).a), (14, u32 (rounds ws R i).b), (15, u32 (rounds ws R i).c), (16, u32 (rounds ws R i).d), (17, u32 (rounds ws R i).e), (18, u32 (rounds ws R i).f), (19, u32 (rounds ws R i).g), (20, u32 (rounds ws R i).h), (21, .int .i64 (i : Nat))]) (fun _ => HW W) (fun _ => True) trivial ⟨rfl, rfl, rfl, rfl, rfl, rfl, rfl, rfl, rfl, rfl, rfl, rfl, rfl, rfl, rfl, trivial⟩ rfl (fun _ _ => rfl) (fun i hi _ => TrOk.refl _) (fun i hi _ => ⟨.ptr (by simp [HW]), .rp bd_u32, .ptr (by simp [HW]), hPbd _, .int, .ptr (by simp [HW]), .int, .int, .int, .int, .int, .int, .int, .int, .int, trivial⟩) (fun i hi _ => ?_) (fun _ => ?_) (fun _ => ⟨rfl, rfl, rfl, rfl, rfl, rfl, rfl, rfl, rfl, rfl, rfl, rfl, rfl, rfl, rfl, trivial⟩)
              · have hl2 : decide (((i : Nat) : Int) < 64) = true := decide_eq_true (by omega)
                have hnx : rounds ws R (i + 1) = (rounds ws R i).next (kList.getD i 0) (ws.getD i 0) := rfl
                obtain ⟨r, hr⟩ : ∃ r, rounds ws R i = r := ⟨_, rfl⟩
                have hki : ((K.map u32).drop i)[0]? = some (u32 (K.getD i 0)) := by rw [List.getElem?_drop, Nat.add_zero]; exact map_get (by rw [hkl]; exact hi)
                have hwi := hWg i hi
                rw [hK, hr] at hnx
                rw [hnx, hr]
                obtain ⟨k, hk⟩ : ∃ k, K.getD i 0 = k := ⟨_, rfl⟩
                obtain ⟨w, hw⟩ : ∃ w, ws.getD i 0 = w := ⟨_, rfl⟩
                rw [hk, hw]
                rw [hk] at hki
                rw [hw] at hwi
                have hL1 : (HW W)[H.length + 3]? = some (.cells W) := by show (H ++ _)[_]? = _; rw [List.getElem?_append_right (by omega)]; simp
                have T := fun (x : UInt32) (k : Nat) (h0 : 0 < k) (h1 : k < 32) X => rrot_A x k h0 h1 X
                refine WpA.cutS [(2, .ptr H.length 0 0), (3, .rp (K.map u32)), (4, .ptr H.length 2 0), (5, .sl .no 1 Pb), (6, .int .i64 (64 * q : Nat)), (7, .ptr H.length 3 0), (13, u32 r.a), (14, u32 r.b), (15, u32 r.c), (16, u32 r.d), (17, u32 r.e), (18, u32 r.f), (19, u32 r.g), (20, u32 r.h), (21, .int .i64 (i : Nat))] (HW W) (by
                  repeat' first
                    | refine WpA.condT (congrArg AV.bool hl2) ?_
                    | refine WpA.seq ?_
                    | refine WpA.region ?_
                    | refine WpOps.op _ rfl rfl rfl rfl rfl ?_
                    | refine WpOps.nil ?_
                    | refine WpA.skip ?_
                  exact ⟨rfl, ⟨rfl, rfl, rfl, rfl, rfl, rfl, rfl, rfl, rfl, rfl, rfl, rfl, rfl, rfl, rfl, trivial⟩, rfl⟩) ?_
                refine WpA.cutS [(2, .ptr H.length 0 0), (3, .rp (K.map u32)), (4, .ptr H.length 2 0), (5, .sl .no 1 Pb), (6, .int .i64 (64 * q : Nat)), (7, .ptr H.length 3 0), (13, u32 (r.next k w).a), (14, u32 (r.next k w).b), (15, u32 (r.next k w).c), (16, u32 (r.next k w).d), (17, u32 (r.next k w).e), (18, u32 (r.next k w).f), (19, u32 (r.next k w).g), (20, u32 (r.next k w).h), (21, .int .i64 (i : Nat))] (HW W) ?_ ?_
                · refine WpA.block ?_
                  refine WpA.cutS [(2, .ptr H.length 0 0), (3, .rp (K.map u32)), (4, .ptr H.length 2 0), (5, .sl .no 1 Pb), (6, .int .i64 (64 * q : Nat)), (7, .ptr H.length 3 0), (13, u32 r.a), (14, u32 r.b), (15, u32 r.c), (16, u32 r.d), (17, u32 r.e), (18, u32 r.f), (19, u32 r.g), (20, u32 r.h), (21, .int .i64 (i : Nat)), (22, u32 (turn r.e 6 ^^^ turn r.e 11 ^^^ turn r.e 25))] (HW W) (by
                    repeat' first
                      | refine WpA.region ?_
                      | refine WpOps.op _ rfl rfl rfl rfl rfl ?_
                      | (refine WpOps.call rfl rfl rfl rfl rfl (by exact T r.e 6 (by decide) (by decide) _) ?_; rintro _ _ ⟨rfl, rfl⟩)
                      | (refine WpOps.call rfl rfl rfl rfl rfl (by exact T r.e 11 (by decide) (by decide) _) ?_; rintro _ _ ⟨rfl, rfl⟩)
                      | (refine WpOps.call rfl rfl rfl rfl rfl (by exact T r.e 25 (by decide) (by decide) _) ?_; rintro _ _ ⟨rfl, rfl⟩)
                      | refine WpOps.nil ?_
                    refine ⟨rfl, ⟨rfl, rfl, rfl, rfl, rfl, rfl, rfl, rfl, rfl, rfl, rfl, rfl, rfl, rfl, rfl, congrArg (AV.int .u32) ?_, trivial⟩, rfl⟩
                    simp only [w32_xor]) ?_
                  refine WpA.cutS [(2, .ptr H.length 0 0), (3, .rp (K.map u32)), (4, .ptr H.length 2 0), (5, .sl .no 1 Pb), (6, .int .i64 (64 * q : Nat)), (7, .ptr H.length 3 0), (13, u32 r.a), (14, u32 r.b), (15, u32 r.c), (16, u32 r.d), (17, u32 r.e), (18, u32 r.f), (19, u32 r.g), (20, u32 r.h), (21, .int .i64 (i : Nat)), (22, u32 (turn r.e 6 ^^^ turn r.e 11 ^^^ turn r.e 25)), (23, u32 (turn r.a 2 ^^^ turn r.a 13 ^^^ turn r.a 22))] (HW W) (by
                    repeat' first
                      | refine WpA.region ?_
                      | refine WpOps.op _ rfl rfl rfl rfl rfl ?_
                      | (refine WpOps.call rfl rfl rfl rfl rfl (by exact T r.a 2 (by decide) (by decide) _) ?_; rintro _ _ ⟨rfl, rfl⟩)
                      | (refine WpOps.call rfl rfl rfl rfl rfl (by exact T r.a 13 (by decide) (by decide) _) ?_; rintro _ _ ⟨rfl, rfl⟩)
                      | (refine WpOps.call rfl rfl rfl rfl rfl (by exact T r.a 22 (by decide) (by decide) _) ?_; rintro _ _ ⟨rfl, rfl⟩)
                      | refine WpOps.nil ?_
                    refine ⟨rfl, ⟨rfl, rfl, rfl, rfl, rfl, rfl, rfl, rfl, rfl, rfl, rfl, rfl, rfl, rfl, rfl, rfl, congrArg (AV.int .u32) ?_, trivial⟩, rfl⟩
                    simp only [w32_xor]) ?_
                  refine WpA.cutS [(2, .ptr H.length 0 0), (3, .rp (K.map u32)), (4, .ptr H.length 2 0), (5, .sl .no 1 Pb), (6, .int .i64 (64 * q : Nat)), (7, .ptr H.length 3 0), (13, u32 r.a), (14, u32 r.b), (15, u32 r.c), (16, u32 r.d), (17, u32 r.e), (18, u32 r.f), (19, u32 r.g), (20, u32 r.h), (21, .int .i64 (i : Nat)), (23, u32 (turn r.a 2 ^^^ turn r.a 13 ^^^ turn r.a 22)), (24, u32 (t1W r k w))] (HW W) (by
                    repeat' first
                      | (refine LexA.p1 rfl rfl rfl (.elemR i rfl rfl rfl rfl rfl rfl hi) ?_)
                      | (refine LexA.p1 rfl rfl rfl (.loadR rfl rfl rfl rfl rfl hki) ?_)
                      | (refine LexA.p1 rfl rfl rfl (.elemP i rfl rfl rfl rfl rfl rfl hi) ?_)
                      | (refine LexA.p1 rfl rfl rfl (.loadN rfl rfl hL1 rfl rfl rfl hwi) ?_)
                      | refine WpA.draw (by kernel_rfl) ?_
                      | refine LexA.op _ rfl rfl rfl rfl rfl ?_
                      | refine LexA.nil ?_
                    refine ⟨rfl, ⟨rfl, rfl, rfl, rfl, rfl, rfl, rfl, rfl, rfl, rfl, rfl, rfl, rfl, rfl, rfl, rfl, congrArg (AV.int .u32) ?_, trivial⟩, rfl⟩
                    rw [t1W]
                    simp only [w32_add, w32_xor, w32_and, w32_not]) ?_
                  refine WpA.cutS [(2, .ptr H.length 0 0), (3, .rp (K.map u32)), (4, .ptr H.length 2 0), (5, .sl .no 1 Pb), (6, .int .i64 (64 * q : Nat)), (7, .ptr H.length 3 0), (13, u32 r.a), (14, u32 r.b), (15, u32 r.c), (16, u32 r.d), (17, u32 r.e), (18, u32 r.f), (19, u32 r.g), (20, u32 r.h), (21, .int .i64 (i : Nat)), (24, u32 (t1W r k w)), (25, u32 (t2W r))] (HW W) (by
                    repeat' first
                      | refine WpA.region ?_
                      | refine WpOps.op _ rfl rfl rfl rfl rfl ?_
                      | refine WpOps.nil ?_
                    refine ⟨rfl, ⟨rfl, rfl, rfl, rfl, rfl, rfl, rfl, rfl, rfl, rfl, rfl, rfl, rfl, rfl, rfl, rfl, congrArg (AV.int .u32) ?_, trivial⟩, rfl⟩
                    rw [t2W]
                    simp only [w32_add, w32_xor, w32_and]) ?_
                  repeat' first
                    | refine WpA.seq ?_
                    | refine WpA.region ?_
                    | refine WpOps.op _ rfl rfl rfl rfl rfl ?_
                    | refine WpOps.nil ?_
                  refine ⟨rfl, ⟨rfl, rfl, rfl, rfl, rfl, rfl, congrArg (AV.int .u32) ?_, rfl, rfl, rfl, congrArg (AV.int .u32) ?_, rfl, rfl, rfl, rfl, trivial⟩, rfl⟩
                  · rw [w32_add]; rfl
                  · rw [w32_add]; rfl
                · repeat' first
                    | refine WpA.region ?_
                    | refine WpOps.op _ rfl rfl rfl rfl rfl ?_
                    | refine WpOps.nil ?_
                  exact ⟨trivial, ⟨rfl, rfl, rfl, rfl, rfl, rfl, rfl, rfl, rfl, rfl, rfl, rfl, rfl, rfl, congrArg (AV.int .i64) (wrap64 (by omega) (by omega)), trivial⟩, [], by rw [List.append_nil]⟩
              · have hl2 : decide (((64 : Nat) : Int) < 64) = false := by decide
                repeat' first
                  | refine WpA.condF (congrArg AV.bool hl2) ?_
                  | refine WpA.seq ?_
                  | refine WpA.region ?_
                  | refine WpOps.op _ rfl rfl rfl rfl rfl ?_
                  | refine WpA.exit ?_
                  | refine WpOps.nil ?_
                exact ⟨rfl, ⟨rfl, rfl, rfl, rfl, rfl, rfl, rfl, rfl, rfl, rfl, rfl, rfl, rfl, rfl, trivial⟩, rfl⟩
            · obtain ⟨s, hs⟩ : ∃ s, rounds ws R 64 = s := ⟨_, rfl⟩
              rw [hs]
              refine WpA.cutS [(2, .ptr H.length 0 0), (3, .rp (K.map u32)), (4, .ptr H.length 2 0), (5, .sl .no 1 Pb), (6, .int .i64 (64 * q : Nat)), (26, .ptr H.length 4 0)] (H ++ [.cells zero32, .dead, .cells R.cells, .cells W, .cells s.cells]) (by
                show WpA E none 245 _ _ _ (H ++ [.cells zero32, .dead, .cells R.cells, .cells W])
                repeat' first
                  | refine WpA.region ?_
                  | refine WpOps.op _ rfl rfl rfl rfl rfl ?_
                  | refine WpOps.alloc _ rfl rfl rfl rfl rfl rfl ?_
                  | refine WpOps.store rfl rfl rfl rfl rfl rfl rfl rfl rfl rfl ?_
                  | refine WpOps.build _ rfl rfl rfl rfl rfl ?_
                  | refine WpOps.nil ?_
                exact ⟨rfl, ⟨rfl, rfl, rfl, rfl, rfl, rfl, trivial⟩, rfl⟩) ?_
              repeat' first
                | refine WpA.seq ?_
                | refine WpA.region ?_
                | refine WpOps.op _ rfl rfl rfl rfl rfl ?_
                | refine WpA.block ?_
                | refine WpOps.nil ?_
              refine WpA.loopG 8 (fun i => [(2, .ptr H.length 0 0), (3, .rp (K.map u32)), (4, .ptr H.length 2 0), (5, .sl .no 1 Pb), (6, .int .i64 (64 * q : Nat)), (26, .ptr H.length 4 0), (27, .int .i64 (i : Nat))]) (fun i => H ++ [.cells zero32, .dead, .cells ((plusTo R s i).map u32), .cells W, .cells s.cells]) (fun _ => True) trivial ⟨rfl, rfl, rfl, rfl, rfl, rfl, rfl, trivial⟩ rfl (fun _ _ => by simp) (fun i hi _ => ?_) (fun i hi _ => ⟨.ptr (by simp), .rp bd_u32, .ptr (by simp), hPbd _, .int, .ptr (by simp), .int, trivial⟩) (fun i hi _ => ?_) (fun _ => ?_) (fun _ => ⟨rfl, rfl, rfl, rfl, rfl, rfl, rfl, trivial⟩)
              · refine TrOk.app fun k o hk => ?_
                rcases k with _ | _ | _ | _ | _ | k
                · exact .inl hk
                · exact .inl hk
                · injection hk with hk; subst hk; exact .inr (obd_cells bd_u32)
                · exact .inl hk
                · exact .inl hk
                · cases hk
              · have hl2 : decide (((i : Nat) : Int) < 8) = true := decide_eq_true (by omega)
                have hg := map_get (l := plusTo R s i) (i := i) (by rw [plusTo_len R s (by omega)]; exact hi)
                have hg1 : (plusTo R s i).getD i 0 = R.list.getD i 0 := by rw [List.getD_eq_getElem?_getD, plusTo_get R s hi]; rfl
                rw [hg1] at hg
                have hg2 : s.cells[i]? = some (u32 (s.list.getD i 0)) := map_get (l := s.list) hi
                have hps := plusTo_set R s hi
                obtain ⟨C, hC⟩ : ∃ C, (plusTo R s i).map u32 = C := ⟨_, rfl⟩
                have hCl : i < C.length := by rw [← hC, List.length_map, plusTo_len R s (by omega)]; exact hi
                have hst : (plusTo R s (i + 1)).map u32 = C.set i (u32 (R.list.getD i 0 + s.list.getD i 0)) := by rw [← hps, List.map_set, hC]
                rw [hC] at hg ⊢
                rw [hst]
                obtain ⟨S, hS⟩ : ∃ S, s.cells = S := ⟨_, rfl⟩
                rw [hS] at hg2 ⊢
                have hX1 : (H ++ [AObj.cells zero32, .dead, .cells C, .cells W, .cells S])[H.length + 2]? = some (.cells C) := by rw [List.getElem?_append_right (by omega)]; simp
                have hX2 : (H ++ [AObj.cells zero32, .dead, .cells C, .cells W, .cells S])[H.length + 4]? = some (.cells S) := by rw [List.getElem?_append_right (by omega)]; simp
                refine WpA.cutS [(2, .ptr H.length 0 0), (3, .rp (K.map u32)), (4, .ptr H.length 2 0), (5, .sl .no 1 Pb), (6, .int .i64 (64 * q : Nat)), (26, .ptr H.length 4 0), (27, .int .i64 (i : Nat))] (H ++ [.cells zero32, .dead, .cells C, .cells W, .cells S]) (by
                  repeat' first
                    | refine WpA.condT (congrArg AV.bool hl2) ?_
                    | refine WpA.seq ?_
                    | refine WpA.region ?_
                    | refine WpOps.op _ rfl rfl rfl rfl rfl ?_
                    | refine WpOps.nil ?_
                    | refine WpA.skip ?_
                  exact ⟨rfl, ⟨rfl, rfl, rfl, rfl, rfl, rfl, rfl, trivial⟩, rfl⟩) ?_
                refine WpA.cutS [(2, .ptr H.length 0 0), (3, .rp (K.map u32)), (4, .ptr H.length 2 0), (5, .sl .no 1 Pb), (6, .int .i64 (64 * q : Nat)), (26, .ptr H.length 4 0), (27, .int .i64 (i : Nat))] (H ++ [.cells zero32, .dead, .cells (C.set i (u32 (R.list.getD i 0 + s.list.getD i 0))), .cells W, .cells S]) (by
                  repeat' first
                    | (refine LexH.p0 rfl rfl rfl rfl (fun _ => .elemP i rfl rfl rfl rfl rfl rfl hi) ?_)
                    | (refine LexH.p1 rfl rfl rfl rfl (.loadN rfl rfl hX1 rfl rfl rfl hg) ?_)
                    | (refine LexH.p1 rfl rfl rfl rfl (.loadN rfl rfl hX2 rfl rfl rfl hg2) ?_)
                    | (refine LexH.u2 rfl rfl rfl (.storeL (j := 2) rfl rfl rfl rfl rfl rfl rfl rfl hCl) ?_)
                    | refine WpA.block ?_
                    | refine WpA.drawC (by kernel_rfl) (by kernel_rfl) ?_
                    | refine LexH.op0 _ rfl rfl rfl rfl rfl (fun _ => rfl) ?_
                    | refine LexH.nil ?_
                  exact ⟨rfl, ⟨rfl, rfl, rfl, rfl, rfl, rfl, rfl, trivial⟩, by rw [w32_add]; rfl⟩) ?_
                repeat' first
                  | refine WpA.region ?_
                  | refine WpOps.op _ rfl rfl rfl rfl rfl ?_
                  | refine WpOps.nil ?_
                exact ⟨trivial, ⟨rfl, rfl, rfl, rfl, rfl, rfl, congrArg (AV.int .i64) (wrap64 (by omega) (by omega)), trivial⟩, [], by rw [List.append_nil]⟩
              · have hl2 : decide (((8 : Nat) : Int) < 8) = false := by decide
                have hpl : (plusTo R s 8).map u32 = (R.plus s).cells := rfl
                rw [hpl]
                repeat' first
                  | refine WpA.condF (congrArg AV.bool hl2) ?_
                  | refine WpA.seq ?_
                  | refine WpA.region ?_
                  | refine WpOps.op _ rfl rfl rfl rfl rfl ?_
                  | refine WpA.exit ?_
                  | refine WpOps.nil ?_
                exact ⟨rfl, ⟨rfl, rfl, rfl, rfl, rfl, trivial⟩, rfl⟩
      · repeat' first
          | refine WpA.region ?_
          | refine WpOps.op _ rfl rfl rfl rfl rfl ?_
          | refine WpOps.nil ?_
        exact ⟨trivial, ⟨rfl, rfl, rfl, rfl, congrArg (AV.int .i64) (by rw [wrap64 (by omega) (by omega)]; omega), trivial⟩, [.cells (partC 64 (schedL B 64)), .cells (rounds (schedL B 64) R 64).cells], by rw [List.append_assoc]; rfl⟩
    · have hlt : decide (((64 * (blocksOf b).length : Nat) : Int) < ((Pb.length : Nat) : Int)) = false := decide_eq_false (by rw [hPl]; omega)
      rw [regAt_all]
      repeat' first
        | refine WpA.condF (congrArg AV.bool hlt) ?_
        | refine WpA.seq ?_
        | refine WpA.region ?_
        | refine WpOps.op _ rfl rfl rfl rfl rfl ?_
        | refine WpA.exit ?_
        | refine WpOps.nil ?_
      exact ⟨rfl, ⟨rfl, rfl, trivial⟩, rfl⟩
  · obtain ⟨Q, hQ⟩ : ∃ Q, regsOf b = Q := ⟨_, rfl⟩
    have hsha : sha b = Q.byte := by rw [← hQ]; rfl
    rw [hQ, hsha]
    have hzl : zero32.length = 32 := rfl
    refine WpA.cutS [(2, .ptr H.length 0 0), (4, .ptr H.length 2 0), (28, .ptr H.length 3 0)] (H ++ [.cells zero32, .dead, .cells Q.cells, .cells (partH Q.byte 0)]) (by
      repeat' first
        | refine WpA.region ?_
        | refine WpOps.alloc _ rfl rfl rfl rfl rfl rfl ?_
        | refine WpOps.nil ?_
      exact ⟨rfl, ⟨rfl, rfl, rfl, trivial⟩, rfl⟩) ?_
    have hTr2 : ∀ k k', TrOk (H ++ [AObj.cells zero32, .dead, .cells Q.cells, .cells (partH Q.byte k)]) (H ++ [AObj.cells zero32, .dead, .cells Q.cells, .cells (partH Q.byte k')]) := fun k k' => TrOk.app fun j o hk => by
      rcases j with _ | _ | _ | _ | j
      · exact .inl hk
      · exact .inl hk
      · exact .inl hk
      · injection hk with hk; subst hk; exact .inr (obd_cells (partH_bd _ _ _))
      · cases hk
    refine WpA.cutS [(2, .ptr H.length 0 0), (28, .ptr H.length 3 0)] (H ++ [.cells zero32, .dead, .cells Q.cells, .cells (partH Q.byte 32)]) ?_ ?_
    · repeat' first
        | refine WpA.seq ?_
        | refine WpA.region ?_
        | refine WpOps.op _ rfl rfl rfl rfl rfl ?_
        | refine WpA.block ?_
        | refine WpOps.nil ?_
      refine WpA.loopG 8 (fun i => [(2, .ptr H.length 0 0), (4, .ptr H.length 2 0), (28, .ptr H.length 3 0), (29, .int .i64 (i : Nat))]) (fun i => H ++ [.cells zero32, .dead, .cells Q.cells, .cells (partH Q.byte (4 * i))]) (fun _ => True) trivial ⟨rfl, rfl, rfl, rfl, trivial⟩ rfl (fun _ _ => by simp) (fun i hi _ => hTr2 _ _) (fun i hi _ => ⟨.ptr (by simp), .ptr (by simp), .ptr (by simp), .int, trivial⟩) (fun i hi _ => ?_) (fun _ => ?_) (fun _ => ⟨rfl, rfl, rfl, rfl, trivial⟩)
      · have hl2 : decide (((i : Nat) : Int) < 8) = true := decide_eq_true (by omega)
        refine WpA.cutS [(2, .ptr H.length 0 0), (4, .ptr H.length 2 0), (28, .ptr H.length 3 0), (29, .int .i64 (i : Nat))] (H ++ [.cells zero32, .dead, .cells Q.cells, .cells (partH Q.byte (4 * i))]) (by
          repeat' first
            | refine WpA.condT (congrArg AV.bool hl2) ?_
            | refine WpA.seq ?_
            | refine WpA.region ?_
            | refine WpOps.op _ rfl rfl rfl rfl rfl ?_
            | refine WpOps.nil ?_
            | refine WpA.skip ?_
          exact ⟨rfl, ⟨rfl, rfl, rfl, rfl, trivial⟩, rfl⟩) ?_
        refine WpA.cutS [(2, .ptr H.length 0 0), (4, .ptr H.length 2 0), (28, .ptr H.length 3 0), (29, .int .i64 (i : Nat))] (H ++ [.cells zero32, .dead, .cells Q.cells, .cells (partH Q.byte (4 * (i + 1)))]) ?_ ?_
        · refine WpA.block ?_
          repeat' first
            | refine WpA.seq ?_
            | refine WpA.region ?_
            | refine WpOps.op _ rfl rfl rfl rfl rfl ?_
            | refine WpA.block ?_
            | refine WpOps.nil ?_
          refine WpA.loopG 4 (fun j => [(2, .ptr H.length 0 0), (4, .ptr H.length 2 0), (28, .ptr H.length 3 0), (29, .int .i64 (i : Nat)), (30, .int .i64 (j : Nat))]) (fun j => H ++ [.cells zero32, .dead, .cells Q.cells, .cells (partH Q.byte (4 * i + j))]) (fun _ => True) trivial ⟨rfl, rfl, rfl, rfl, rfl, trivial⟩ rfl (fun _ _ => by simp) (fun j hj _ => hTr2 _ _) (fun j hj _ => ⟨.ptr (by simp), .ptr (by simp), .ptr (by simp), .int, .int, trivial⟩) (fun j hj _ => ?_) (fun _ => ?_) (fun _ => ⟨rfl, rfl, rfl, rfl, rfl, trivial⟩)
          · have hl3 : decide (((j : Nat) : Int) < 4) = true := decide_eq_true (by omega)
            have hg : Q.cells[i]? = some (u32 (Q.list.getD i 0)) := map_get (l := Q.list) hi
            have q1 : IntKind.i64.wrap (IntKind.i64.wrap (4 * ((i : Nat) : Int)) + ((j : Nat) : Int)) = ((4 * i + j : Nat) : Int) := by rw [wrap64 (x := 4 * ((i : Nat) : Int)) (by omega) (by omega), wrap64 (by omega) (by omega)]; omega
            have q2 : IntKind.u64.wrap (IntKind.i64.wrap (24 - IntKind.i64.wrap (8 * ((j : Nat) : Int)))) = ((24 - 8 * j : Nat) : Int) := by rw [wrap64 (x := 8 * ((j : Nat) : Int)) (by omega) (by omega), wrap64 (by omega) (by omega), wrapu64 (by omega) (by omega)]; omega
            have hv : IntKind.u8.wrap (((Q.list.getD i 0).toNat : Int).fdiv (2 ^ min (24 - 8 * j) IntKind.u32.bits)) = ((Q.byte (4 * i + j)).toNat : Int) := by
              have e1 : (4 * i + j) / 4 = i := by omega
              have e2 : (4 * i + j) % 4 = j := by omega
              rw [w32_shr _ _ (by omega), w32_low, Reg.byte, e1, e2]
            have hle : 4 * i + j < (partH Q.byte (4 * i + j)).length := by rw [partH_len]; omega
            have hst := partH_set Q.byte (i := 4 * i + j) (by omega)
            have e4 : 4 * i + (j + 1) = 4 * i + j + 1 := by omega
            rw [e4, ← hst]
            obtain ⟨C, hC⟩ : ∃ C, partH Q.byte (4 * i + j) = C := ⟨_, rfl⟩
            rw [hC] at hle ⊢
            obtain ⟨S, hS⟩ : ∃ S, Q.cells = S := ⟨_, rfl⟩
            rw [hS] at hg ⊢
            repeat' first
              | refine WpA.condT (congrArg AV.bool hl3) ?_
              | (refine WpOps.p1 rfl rfl rfl (.elemP i rfl rfl rfl rfl rfl rfl hi) ?_)
              | (refine WpOps.p1 rfl rfl rfl (.elemP (4 * i + j) rfl rfl rfl rfl rfl q1 (by omega)) ?_)
              | (refine WpOps.p1 rfl rfl rfl (.loadN rfl rfl (app_get (j := 2) rfl rfl) rfl rfl rfl hg) ?_)
              | (refine WpOps.p1 rfl rfl rfl (.shrN (24 - 8 * j) rfl rfl rfl q2) ?_)
              | (refine WpOps.u1 rfl rfl (.storeL (j := 3) rfl rfl rfl rfl rfl rfl rfl rfl hle) ?_)
              | refine WpA.seq ?_
              | refine WpA.region ?_
              | refine WpOps.op _ rfl rfl rfl rfl rfl ?_
              | refine WpA.block ?_
              | refine WpOps.nil ?_
              | refine WpA.skip ?_
            exact ⟨trivial, ⟨rfl, rfl, rfl, rfl, congrArg (AV.int .i64) (wrap64 (by omega) (by omega)), trivial⟩, [], by rw [List.append_nil, hv]; rfl⟩
          · have hl3 : decide (((4 : Nat) : Int) < 4) = false := by decide
            have e4 : 4 * (i + 1) = 4 * i + 4 := by omega
            rw [e4]
            repeat' first
              | refine WpA.condF (congrArg AV.bool hl3) ?_
              | refine WpA.seq ?_
              | refine WpA.region ?_
              | refine WpOps.op _ rfl rfl rfl rfl rfl ?_
              | refine WpA.exit ?_
              | refine WpOps.nil ?_
            exact ⟨rfl, ⟨rfl, rfl, rfl, rfl, trivial⟩, rfl⟩
        · repeat' first
            | refine WpA.region ?_
            | refine WpOps.op _ rfl rfl rfl rfl rfl ?_
            | refine WpOps.nil ?_
          exact ⟨trivial, ⟨rfl, rfl, rfl, congrArg (AV.int .i64) (wrap64 (by omega) (by omega)), trivial⟩, [], by rw [List.append_nil]⟩
      · have hl2 : decide (((8 : Nat) : Int) < 8) = false := by decide
        repeat' first
          | refine WpA.condF (congrArg AV.bool hl2) ?_
          | refine WpA.seq ?_
          | refine WpA.region ?_
          | refine WpOps.op _ rfl rfl rfl rfl rfl ?_
          | refine WpA.exit ?_
          | refine WpOps.nil ?_
        exact ⟨rfl, ⟨rfl, rfl, trivial⟩, rfl⟩
    · rw [partH_full]
      obtain ⟨hs, hhs⟩ : ∃ hs, hs = hashA Q.byte := ⟨_, rfl⟩
      have hsl : hs.length = 32 := by rw [hhs]; simp [hashA]
      have hone : ∀ a ∈ hs, a.one = true := by rw [hhs]; exact hash_one _
      rw [← hhs]
      repeat' first
        | (refine WpOps.p1 rfl rfl rfl (.loadG rfl rfl (app_get (j := 3) rfl rfl) rfl rfl (by exact hsl)) ?_)
        | (refine WpOps.u1 rfl rfl (.storeGL (j := 0) rfl rfl rfl rfl (by exact hone) rfl (by exact hsl) (by rw [hsl, hzl])) ?_)
        | refine WpA.seq ?_
        | refine WpA.region ?_
        | refine WpOps.nil ?_
        | refine WpA.ret ?_
      exact retK.sub (.inr rfl) rfl (TrOk.refl H) (L := _) (resL_one (resA_agg rfl rfl rfl rfl (by exact hsl))) rfl (Sub.refl _) (by rw [hhs]; exact hash_bd _ _) ⟨rfl, rfl⟩
end Go.Gp.Tryd

/- The law ManifestMatches: its walk, given the reference's Make. -/
namespace Go.Gp.Tryd
open Go.Proofs
set_option linter.unusedVariables false
set_option linter.unusedSimpArgs false
set_option maxHeartbeats 4000000
set_option maxRecDepth 100000

def MakeSpec : Prop := ∀ (v a b : Int) (fs : List NFile) (H : List AObj), fs.length ≤ 1000000000 → (∀ f ∈ fs, f.bytes.length ≤ 1000000000) →
  CallsA E 14 [.int .u64 v, .agg [.int .i64 a, .int .i64 b], .sl .no 2 (nrows fs)] H (Is H (.tup [(makeM v a b fs).av .no, .int .i64 (makeE a b fs)]))
theorem sameRepR (r : Rep) : sameRep r r = true := by simp [sameRep]
theorem sumSpec : SumSpec := fun b H hb => refSum_A b H hb
theorem matchR_short {m : Man} {fs : List NFile} : (matchR m fs).miss.length ≤ m.fs.length ∧ (matchR m fs).wrong.length ≤ m.fs.length ∧ (matchR m fs).extra.length ≤ fs.length := by
  unfold matchR
  split
  · refine ⟨?_, ?_, ?_⟩
    · show (fnames _).length ≤ _
      rw [fnames, List.length_map]; exact List.length_filter_le _ _
    · show (fnames _).length ≤ _
      rw [fnames, List.length_map]; exact List.length_filter_le _ _
    · show (sortB _).length ≤ _
      rw [(sortB_perm _).length_eq]
      have := List.length_filter_le (fun k => !(fnames m.fs).contains k) (names fs)
      rw [names, List.length_map] at this
      exact this
  · exact ⟨Nat.zero_le _, Nat.zero_le _, Nat.zero_le _⟩
theorem great_len {m : Man} (h : great m = false) : m.fs.length ≤ 220 := by
  simp only [great, Bool.or_eq_false_iff, decide_eq_false_iff_not] at h
  omega
theorem makeM_len (v a b : Int) (fs : List NFile) : (makeM v a b fs).fs.length ≤ fs.length := by
  unfold makeM
  split
  · exact Nat.le_of_eq (makeFs_len fs)
  · exact Nat.zero_le _
theorem matches_A (hmk : MakeSpec) (v a b : Int) (m : Man) (fs : List NFile) (H : List AObj) (hm : m.fs.length ≤ 1000000000000000) (hl : fs.length ≤ 1000000000000000) :
    CallsA E 3 [.int .u64 v, .agg [.int .i64 a, .int .i64 b], m.av .no, .sl .no 2 (nrows fs)] H (Is H (.bool true)) := by
  have hG := fun X => great_A m .no X hm
  have hGF := fun X => greatFiles_A fs X hl
  refine .enter Tryd.func3 rfl rfl rfl 83 Tryd.ntmps3 (Nat.le_of_ble_eq_true rfl) ?_
  cases hg : great m with
  | true =>
    rw [hg] at hG
    repeat' first
      | refine WpA.seq ?_
      | refine WpA.region ?_
      | refine WpOps.op _ rfl rfl rfl rfl rfl ?_
      | refine WpOps.box _ rfl rfl rfl rfl rfl ?_
      | refine WpOps.skip rfl rfl rfl ?_
      | (refine WpOps.call rfl rfl rfl rfl rfl (by exact hG _) ?_; rintro _ _ ⟨rfl, rfl⟩)
      | refine WpOps.nil ?_
      | refine WpA.ret ?_
      | refine WpA.condT rfl ?_
    all_goals exact retK.ok («as» := [.bool true]) (by kernel_rfl) (by kernel_rfl) rfl .bool
  | false =>
  rw [hg] at hG
  cases hg2 : greatFs fs with
  | true =>
    rw [hg2] at hGF
    repeat' first
      | refine WpA.seq ?_
      | refine WpA.region ?_
      | refine WpOps.op _ rfl rfl rfl rfl rfl ?_
      | refine WpOps.box _ rfl rfl rfl rfl rfl ?_
      | (refine WpOps.call rfl rfl rfl rfl rfl (by exact hG _) ?_; rintro _ _ ⟨rfl, rfl⟩)
      | (refine WpOps.call rfl rfl rfl rfl rfl (by exact hGF _) ?_; rintro _ _ ⟨rfl, rfl⟩)
      | refine WpOps.nil ?_
      | refine WpA.ret ?_
      | refine WpA.condT rfl ?_
    all_goals exact retK.ok («as» := [.bool true]) (by kernel_rfl) (by kernel_rfl) rfl .bool
  | false =>
  rw [hg2] at hGF
  have hm2 := great_len hg
  obtain ⟨hb1, hb2⟩ := greatFs_false hg2
  have hbk : ∀ f ∈ fs, f.bytes.length ≤ 1000000000 := fun f hf => Nat.le_trans (hb2 f hf).2 (by decide)
  have hT := fun X => twin_A m .no X (by omega)
  have hTF := fun X => twinFiles_A fs X (by omega) hbk
  have hM := fun X => make_A v a b fs X (by omega) hbk
  have hRM := fun X => hmk v a b fs X (by omega) hbk
  have hMt := fun X => match_A m fs X (by omega) (by omega) hbk
  have hRMt := fun X => refMatch_A sumSpec m fs X (by omega) (by omega) hbk
  have hml := makeM_len v a b fs
  have hS1 := fun X => refSame_A (makeM v a b fs) (makeM v a b fs) X (by omega)
  have hS2 := fun X => refSame_A m m X hm
  rw [same_refl] at hS1 hS2
  obtain ⟨r1, r2, r3⟩ := matchR_short (m := m) (fs := fs)
  have hSR := fun X => sameReport_A (matchR m fs) (matchR m fs) X (by omega) (by omega) (by omega)
  rw [sameRepR] at hSR
  have hSF := fun X => sameFiles_A fs X (by omega) hbk
  obtain ⟨M, hMe⟩ : ∃ M, makeM v a b fs = M := ⟨_, rfl⟩
  obtain ⟨c, hc⟩ : ∃ c, makeE a b fs = c := ⟨_, rfl⟩
  obtain ⟨R, hR⟩ : ∃ R, matchR m fs = R := ⟨_, rfl⟩
  obtain ⟨d, hd⟩ : ∃ d, matchE m fs = d := ⟨_, rfl⟩
  rw [hMe, hc] at hM hRM
  rw [hMe] at hS1
  rw [hR, hd] at hMt hRMt
  rw [hR] at hSR
  have k1 : ¬ ((bif true then c == c else false) = false) := by simp
  have k2 : ¬ ((bif true then d == d else false) = false) := by simp
  repeat' first
    | exact absurd (by assumption) k1
    | exact absurd (by assumption) k2
    | refine WpA.seq ?_
    | refine WpA.region ?_
    | refine WpOps.op _ rfl rfl rfl rfl rfl ?_
    | refine WpOps.box _ rfl rfl rfl rfl rfl ?_
    | refine WpOps.alloc _ rfl rfl rfl rfl rfl rfl ?_
    | refine WpOps.store rfl rfl rfl rfl rfl rfl rfl rfl rfl rfl ?_
    | (refine WpOps.call rfl rfl rfl rfl rfl (by exact hG _) ?_; rintro _ _ ⟨rfl, rfl⟩)
    | (refine WpOps.call rfl rfl rfl rfl rfl (by exact hGF _) ?_; rintro _ _ ⟨rfl, rfl⟩)
    | (refine WpOps.call rfl rfl rfl rfl rfl (by exact hT _) ?_; rintro _ _ ⟨rfl, rfl⟩)
    | (refine WpOps.call rfl rfl rfl rfl rfl (by exact hTF _) ?_; rintro _ _ ⟨rfl, rfl⟩)
    | (refine WpOps.call rfl rfl rfl rfl rfl (by exact hM _) ?_; rintro _ _ ⟨rfl, rfl⟩)
    | (refine WpOps.call rfl rfl rfl rfl rfl (by exact hRM _) ?_; rintro _ _ ⟨rfl, rfl⟩)
    | (refine WpOps.call rfl rfl rfl rfl rfl (by exact hMt _) ?_; rintro _ _ ⟨rfl, rfl⟩)
    | (refine WpOps.call rfl rfl rfl rfl rfl (by exact hRMt _) ?_; rintro _ _ ⟨rfl, rfl⟩)
    | (refine WpOps.call rfl rfl rfl rfl rfl (by exact hS1 _) ?_; rintro _ _ ⟨rfl, rfl⟩)
    | (refine WpOps.call rfl rfl rfl rfl rfl (by exact hS2 _) ?_; rintro _ _ ⟨rfl, rfl⟩)
    | (refine WpOps.call rfl rfl rfl rfl rfl (by exact hSR _) ?_; rintro _ _ ⟨rfl, rfl⟩)
    | (refine WpOps.call rfl rfl rfl rfl rfl (by exact hSF _) ?_; rintro _ _ ⟨rfl, rfl⟩)
    | refine WpOps.gsplit _ rfl rfl rfl (fun h => ?_) (fun h => ?_)
    | refine WpOps.nil ?_
    | refine WpA.ret ?_
    | refine WpA.skip ?_
    | refine WpA.condF rfl ?_
  all_goals exact retK.ok («as» := [.bool true]) (by kernel_rfl) (by kernel_rfl) rfl .bool
end Go.Gp.Tryd
