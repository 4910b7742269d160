/- Part of a proof: GpR11, GpP3, GpP4 -/
import Derived.Test.YtmacdhglhafldaaK23
import Derived.Test.YtmacdhglhafldaaK29

/- The reference's manifests: Decode. -/
namespace Go.Gp.Try
open Go.Proofs
set_option linter.unusedVariables false
set_option linter.unusedSimpArgs false
set_option maxHeartbeats 4000000
set_option maxRecDepth 100000

def rfileOf (o : Oct) : File := ⟨(o.items.getD 0 zeroOct).bs, fun j => (o.items.getD 1 zeroOct).bs.getD j 0⟩
def rOk (o : Oct) : Bool := o.items.length == 2 && (o.items.getD 1 zeroOct).bs.length == 32
def rdMan (o : Oct) : Man := ⟨(numR (o.items.getD 0 zeroOct) 1 : Nat), timeR (numR (o.items.getD 1 zeroOct) 2), timeR (numR (o.items.getD 2 zeroOct) 3), (o.items.drop 3).map rfileOf⟩
def refDecM (b : List UInt8) : Option Man :=
  if (decP b).2 = 0 ∧ 3 ≤ (decP b).1.items.length ∧ ((decP b).1.items.drop 3).all rOk = true ∧ check (rdMan (decP b).1) = 0 ∧ (manO (rdMan (decP b).1)).enc = b then some (rdMan (decP b).1) else none
def refDecR (b : List UInt8) : AV := match refDecM b with
  | some m => .tup [m.av .no, .int .i64 0]
  | none => .tup [zeroMan.av .no, .int .i64 12]

/-- A row whose hash is known as far as k. -/
def rowK (nm bs : List UInt8) (k : Nat) : List AV := .str nm :: (List.range 32).map fun j => u8 (if j < k then bs.getD j 0 else 0)
theorem rowK_len (nm bs : List UInt8) (k : Nat) : (rowK nm bs k).length = 33 := by simp [rowK]
theorem rowK_put (nm bs : List UInt8) (k : Nat) (hk : k < 32) : putA (rowK nm bs k) (0 + 1 + k * 1) [u8 (bs.getD k 0)] = rowK nm bs (k + 1) := by
  show (rowK nm bs k).set (0 + 1 + k * 1) (u8 (bs.getD k 0)) = _
  rw [show 0 + 1 + k * 1 = k + 1 by omega, rowK, rowK, List.set_cons_succ]
  congr 1
  apply List.ext_getElem
  · simp
  · intro j h1 h2
    simp only [List.length_map, List.length_range] at h2
    rw [List.getElem_set]
    simp only [List.getElem_map, List.getElem_range]
    by_cases hj : k = j
    · subst hj
      rw [if_pos rfl, if_pos (by omega)]
    · rw [if_neg hj]
      by_cases h3 : j < k
      · rw [if_pos h3, if_pos (by omega)]
      · rw [if_neg h3, if_neg (by omega)]
theorem rowK_full (nm bs : List UInt8) : rowK nm bs 32 = (File.mk nm fun j => bs.getD j 0).row := by
  rw [rowK, File.row]
  have e : ((List.range 32).map fun j => u8 (if j < 32 then bs.getD j 0 else 0)) = (List.range 32).map fun j => u8 (bs.getD j 0) :=
    List.map_congr_left fun j hj => by rw [if_pos (List.mem_range.1 hj)]
  rw [e]

theorem numR_lt (o : Oct) (t : UInt8) : numR o t < 18446744073709551616 := by
  have h1 : big = 18446744073709551615 := rfl
  unfold numR
  split
  · omega
  · have := readNum_le o t big
    omega

theorem refManDecode_A (b : List UInt8) (H : List AObj) (hb : b.length ≤ 100000000000) :
    CallsA E 16 [.sl .no 1 (b.map byteRow)] H (Is H (refDecR b)) := by
  obtain ⟨o, ho⟩ : ∃ o, o = (decP b).1 := ⟨_, rfl⟩
  obtain ⟨e0, he0⟩ : ∃ e, e = (decP b).2 := ⟨_, rfl⟩
  have hsz := decP_size b
  have hD := fun H => rDecode_A b H (by omega)
  rw [decodes_same, ← ho, ← he0] at hD
  have hil : o.items.length ≤ b.length + 100 := by
    have h1 := length_le_sizeL o.items
    have h2 : Oct.sizeL o.items ≤ o.size := by cases o; rw [size_mk]; show Oct.sizeL _ ≤ _; simp only [Oct.items]; omega
    rw [← ho] at hsz
    omega
  have hcl := cellsL_length o.items
  have fail : refDecM b = none → ∀ {L : List AObj} {t : Slots} {rs : List ResultVar} {as' : List AV}, resL L Try.E.T t rs = some as' → resN H.length t rs = rs.map (fun _ => H.length) → as' = [.agg [.int .u64 0, .int .i64 0, .int .i64 0, .sl .full 0 []], .int .i64 12] → retK Try.E rs H (Is H (refDecR b)) .ret t (H ++ L) := by
    intro hn L t rs as' h1 h2 h3
    subst h3
    have e : refDecR b = .tup [zeroMan.av .no, .int .i64 12] := by unfold refDecR; rw [hn]
    rw [e]
    exact retK.sub (.inr rfl) rfl (TrOk.refl H) h1 h2 (Sub.tup (vs := [zeroMan.av .no, .int .i64 12]) ⟨zeroMan_sub, Sub.refl _, trivial⟩) (man_bd _ _ _) ⟨rfl, rfl⟩
  refine .enter Try.func16 rfl rfl rfl 102 Try.ntmps16 (Nat.le_of_ble_eq_true rfl) ?_
  by_cases hgo : e0 = 0 ∧ 3 ≤ o.items.length
  · obtain ⟨hz, h3⟩ := hgo
    subst hz
    have hlt3 : decide ((((Oct.cellsL o.items).length : Nat) : Int) < 3) = false := by rw [hcl]; simp; omega
    have hnum : ∀ (i : Nat) (t : UInt8) (H), i < o.items.length → CallsA E 41 [.sl .no 3 (Oct.cellsL o.items), .int .i64 (i : Nat), u8 t] H (Is H (.int .u64 (numR (o.items.getD i zeroOct) t : Nat))) := fun i t H hi => by
      have := rnumber_A o.items i t hi H
      have e : o.items.getD i zeroOct = o.items[i] := by rw [List.getD_eq_getElem?_getD, List.getElem?_eq_getElem hi]; rfl
      rw [e]; exact this
    have n0 := fun H => hnum 0 1 H (by omega)
    have n1 := fun H => hnum 1 2 H (by omega)
    have n2 := fun H => hnum 2 3 H (by omega)
    repeat' first
      | refine WpA.seq ?_
      | refine WpA.region ?_
      | refine WpOps.op _ rfl rfl rfl rfl rfl ?_
      | refine WpOps.box _ rfl rfl rfl rfl rfl ?_
      | refine WpOps.alloc _ rfl rfl rfl rfl rfl rfl ?_
      | refine WpOps.store rfl rfl rfl rfl rfl rfl rfl rfl rfl rfl ?_
      | refine WpOps.skip rfl rfl rfl ?_
      | refine WpOps.build _ rfl rfl rfl rfl rfl ?_
      | refine WpOps.sh _ rfl rfl rfl rfl rfl ?_
      | (refine WpOps.call rfl rfl rfl rfl rfl (by exact hD _) ?_; rintro _ _ ⟨rfl, rfl⟩)
      | refine WpOps.gsplit _ rfl rfl rfl (fun h => ?_) (fun h => ?_)
      | refine WpA.block ?_
      | refine WpA.exit ?_
      | refine WpOps.nil ?_
      | refine WpA.ret ?_
      | refine WpA.skip ?_
      | refine WpA.condT rfl ?_
      | refine WpA.condF rfl ?_
      | refine WpA.drawC (by kernel_rfl) (by kernel_rfl) ?_
      | refine LexH.op0 _ rfl rfl rfl rfl rfl (fun _ => rfl) ?_
      | refine LexH.op1 _ rfl rfl rfl rfl rfl rfl ?_
      | refine LexH.load4 _ rfl rfl rfl rfl rfl rfl (by simp) rfl rfl rfl rfl ?_
      | refine LexH.skip rfl rfl rfl ?_
      | refine LexH.build _ rfl rfl rfl rfl rfl rfl ?_
      | refine LexH.buildSlice _ rfl rfl rfl rfl rfl rfl rfl rfl rfl rfl rfl rfl ?_
      | refine LexH.store rfl rfl rfl rfl rfl rfl rfl rfl rfl rfl rfl ?_
      | refine LexH.sh _ rfl rfl rfl rfl rfl rfl ?_
      | refine LexH.call rfl rfl rfl rfl rfl rfl (by exact hD _) ?_
      | refine LexH.call0 rfl rfl rfl rfl rfl rfl (fun _ => by exact hD _) ?_
      | refine LexH.gsplit _ rfl rfl rfl (fun h => ?_) (fun h => ?_)
      | refine LexH.nil ?_
    refine WpA.cond false (congrArg AV.bool hlt3) (fun h => by cases h) (fun h => ?_)
    clear h
    repeat' first
      | refine WpA.drawI [H.length + 1] [0, 4, 0, 0, 4, 0, 0, 0, 4, 0, 0, 0, 0, 3, 2] (by kernel_rfl) (by kernel_rfl) ?_
      | refine WpA.seq ?_
      | refine WpA.region ?_
      | refine WpOps.op _ rfl rfl rfl rfl rfl ?_
      | refine WpOps.box _ rfl rfl rfl rfl rfl ?_
      | refine WpOps.alloc _ rfl rfl rfl rfl rfl rfl ?_
      | refine WpOps.store rfl rfl rfl rfl rfl rfl rfl rfl rfl rfl ?_
      | refine WpOps.skip rfl rfl rfl ?_
      | refine WpOps.build _ rfl rfl rfl rfl rfl ?_
      | refine WpOps.sh _ rfl rfl rfl rfl rfl ?_
      | (refine WpOps.call rfl rfl rfl rfl rfl (by exact n0 _) ?_; rintro _ _ ⟨rfl, rfl⟩)
      | (refine WpOps.call rfl rfl rfl rfl rfl (by exact n1 _) ?_; rintro _ _ ⟨rfl, rfl⟩)
      | (refine WpOps.call rfl rfl rfl rfl rfl (by exact n2 _) ?_; rintro _ _ ⟨rfl, rfl⟩)
      | (refine WpOps.call rfl rfl rfl rfl rfl (by exact rtime_A _ _) ?_; rintro _ _ ⟨rfl, rfl⟩)
      | (refine LexH.alloc3 _ rfl rfl rfl rfl rfl rfl rfl ?_)
      | refine WpOps.gsplit _ rfl rfl rfl (fun h => ?_) (fun h => ?_)
      | refine WpA.block ?_
      | refine WpA.exit ?_
      | refine WpOps.nil ?_
      | refine WpA.ret ?_
      | refine WpA.skip ?_
      | refine WpA.condT rfl ?_
      | refine WpA.condF rfl ?_
      | refine WpA.drawC (by kernel_rfl) (by kernel_rfl) ?_
      | refine LexH.op0 _ rfl rfl rfl rfl rfl (fun _ => rfl) ?_
      | refine LexH.op1 _ rfl rfl rfl rfl rfl rfl ?_
      | refine LexH.load4 _ rfl rfl rfl rfl rfl rfl (by simp) rfl rfl rfl rfl ?_
      | refine LexH.skip rfl rfl rfl ?_
      | refine LexH.build _ rfl rfl rfl rfl rfl rfl ?_
      | refine LexH.buildSlice _ rfl rfl rfl rfl rfl rfl rfl rfl rfl rfl rfl rfl ?_
      | refine LexH.store rfl rfl rfl rfl rfl rfl rfl rfl rfl rfl rfl ?_
      | refine LexH.sh _ rfl rfl rfl rfl rfl rfl ?_
      | refine LexH.call rfl rfl rfl rfl rfl rfl (by exact n0 _) ?_
      | refine LexH.call0 rfl rfl rfl rfl rfl rfl (fun _ => by exact n0 _) ?_
      | refine LexH.call rfl rfl rfl rfl rfl rfl (by exact n1 _) ?_
      | refine LexH.call0 rfl rfl rfl rfl rfl rfl (fun _ => by exact n1 _) ?_
      | refine LexH.call rfl rfl rfl rfl rfl rfl (by exact n2 _) ?_
      | refine LexH.call0 rfl rfl rfl rfl rfl rfl (fun _ => by exact n2 _) ?_
      | refine LexH.call rfl rfl rfl rfl rfl rfl (by exact rtime_A _ _) ?_
      | refine LexH.call0 rfl rfl rfl rfl rfl rfl (fun _ => by exact rtime_A _ _) ?_
      | refine LexH.gsplit _ rfl rfl rfl (fun h => ?_) (fun h => ?_)
      | refine LexH.nil ?_
    clear n0 n1 n2 hD hnum
    obtain ⟨os, hos⟩ : ∃ os, os = o.items.drop 3 := ⟨_, rfl⟩
    have hol : os.length = o.items.length - 3 := by rw [hos, List.length_drop]
    have hge : ∀ (i : Nat) (h : i < os.length), (Oct.cellsL o.items)[3 + i]? = some (os[i]).cells := fun i h => by
      have h1 : 3 + i < o.items.length := by omega
      have h2 : os[i] = o.items[3 + i] := by subst hos; rw [List.getElem_drop]
      rw [cellsL_get h1, h2]
    refine WpA.adoptC (j := 2) (q := 3) 33 rfl rfl ?_
    refine WpA.loopG os.length (fun i => [(0, .sl .no 1 (b.map byteRow)), (2, .ptr H.length 0 0), (4, .ptr H.length 1 0), (6, .ptr H.length 2 0), (7, .int .i64 ((3 + i : Nat) : Int))])
      (fun i => H ++ [.cells [.int .u64 0, .int .i64 0, .int .i64 0, .sl .full 0 []], .cells o.cells, .cells [.int .u64 (numR (o.items.getD 0 zeroOct) 1 : Nat), .int .i64 (timeR (numR (o.items.getD 1 zeroOct) 2)), .int .i64 (timeR (numR (o.items.getD 2 zeroOct) 3)), .sl (.row H.length 3) 33 (rows ((os.take i).map rfileOf))], .tail (rows ((os.take i).map rfileOf)).length 33])
      (fun i => (os.take i).all rOk = true) rfl ⟨rfl, rfl, rfl, rfl, rfl, trivial⟩ rfl (fun _ _ => by simp) (fun i _ _ => ?_) (fun i hi _ => ?_) (fun i hi hok => ?_) (fun hok => ?_) (fun _ => ⟨rfl, rfl, rfl, rfl, rfl, trivial⟩)
    · refine TrOk.app fun j x hj => ?_
      rcases j with _ | _ | _ | _ | j
      · exact .inl hj
      · exact .inl hj
      · injection hj with hj; subst hj
        refine .inr (obd_cells ?_)
        intro x hx
        simp only [List.mem_cons, List.not_mem_nil, or_false] at hx
        rcases hx with rfl | rfl | rfl | rfl
        · exact .int
        · exact .int
        · exact .int
        · refine .sl (fun _ _ e => by cases e; simp) fun x hx e he => ?_
          have := rows_bd (H.length + 4) ((os.take (i + 1)).map rfileOf)
          cases this with
          | sl _ h => exact (h x hx e he).le (by simp)
      · injection hj with hj; subst hj; exact .inr (obd_tail)
      · cases hj
    · exact ⟨bd_slB _, .ptr (by simp), .ptr (by simp), .ptr (by simp), .int, trivial⟩
    · have hlt : decide (((3 + i : Nat) : Int) < ((Oct.cellsL o.items).length : Nat)) = true := by rw [hcl]; simp; omega
      have hc : (Oct.cellsL o.items)[((3 + i : Nat) : Int).toNat]? = some (os[i]).cells := by rw [Int.toNat_natCast]; exact hge i hi
      have hok1 : (os.take (i + 1)).all rOk = rOk os[i] := by
        rw [List.take_succ_eq_append_getElem hi, List.all_append, hok]; simp
      have hcli := cellsL_length os[i].items
      have bad : rOk os[i] = false → refDecM b = none := fun h => by
        rw [refDecM, if_neg]
        rintro ⟨_, _, h3, _⟩
        rw [← ho, ← hos, List.all_eq_true] at h3
        rw [h3 _ (List.getElem_mem hi)] at h
        cases h
      by_cases hl2 : os[i].items.length = 2
      · obtain ⟨x0, x1, hx⟩ : ∃ x0 x1, os[i].items = [x0, x1] := by
          match os[i].items, hl2 with
          | [x0, x1], _ => exact ⟨x0, x1, rfl⟩
        have hc0 : (Oct.cellsL os[i].items)[(0 : Int).toNat]? = some x0.cells := by rw [hx, cellsL_map]; rfl
        have hc1 : (Oct.cellsL os[i].items)[(1 : Int).toNat]? = some x1.cells := by rw [hx, cellsL_map]; rfl
        have d2 : (((((Oct.cellsL os[i].items).length : Nat) : Int)) != 2) = false := by rw [hcli, hl2]; rfl
        repeat' first
          | refine WpA.seq ?_
          | refine WpA.region ?_
          | refine WpOps.op _ rfl rfl rfl rfl rfl ?_
          | refine WpOps.box _ rfl rfl rfl rfl rfl ?_
          | refine WpOps.alloc _ rfl rfl rfl rfl rfl rfl ?_
          | refine WpOps.store rfl rfl rfl rfl rfl rfl rfl rfl rfl rfl ?_
          | refine WpOps.skip rfl rfl rfl ?_
          | refine WpOps.build _ rfl rfl rfl rfl rfl ?_
          | refine WpOps.sh _ rfl rfl rfl rfl rfl ?_
          | refine WpOps.gsplit _ rfl rfl rfl (fun h => ?_) (fun h => ?_)
          | refine WpA.block ?_
          | refine WpA.exit ?_
          | refine WpOps.nil ?_
          | refine WpA.ret ?_
          | refine WpA.skip ?_
          | refine WpA.condT rfl ?_
          | refine WpA.condF rfl ?_
          | refine WpA.draw (by kernel_rfl) ?_
          | refine LexA.op _ rfl rfl rfl rfl rfl ?_
          | refine LexA.skip rfl rfl rfl ?_
          | refine LexA.build _ rfl rfl rfl rfl rfl ?_
          | refine LexA.sh _ rfl rfl rfl rfl rfl ?_
          | refine LexA.gsplit _ rfl rfl rfl (fun h => ?_) (fun h => ?_)
          | refine LexA.nil ?_
        refine WpA.cond true (congrArg AV.bool hlt) (fun h => ?_) (fun h => by cases h)
        repeat' first
          | refine WpA.seq ?_
          | refine WpA.region ?_
          | refine WpOps.op _ rfl rfl rfl rfl rfl ?_
          | refine WpOps.box _ rfl rfl rfl rfl rfl ?_
          | refine WpOps.alloc _ rfl rfl rfl rfl rfl rfl ?_
          | refine WpOps.store rfl rfl rfl rfl rfl rfl rfl rfl rfl rfl ?_
          | refine WpOps.skip rfl rfl rfl ?_
          | refine WpOps.build _ rfl rfl rfl rfl rfl ?_
          | refine WpOps.sh _ rfl rfl rfl rfl rfl ?_
          | (refine WpOps.elem (os[i]).cells rfl rfl rfl rfl rfl rfl rfl rfl rfl (Int.natCast_nonneg _) hc ?_)
          | (refine WpOps.elem x1.cells rfl rfl rfl rfl rfl rfl rfl rfl rfl (by decide) hc1 ?_)
          | refine WpOps.gsplit _ rfl rfl rfl (fun h => ?_) (fun h => ?_)
          | refine WpA.block ?_
          | refine WpA.exit ?_
          | refine WpOps.nil ?_
          | refine WpA.ret ?_
          | refine WpA.skip ?_
          | refine WpA.condT rfl ?_
          | refine WpA.condF rfl ?_
          | refine WpA.draw (by kernel_rfl) ?_
          | refine LexA.op _ rfl rfl rfl rfl rfl ?_
          | refine LexA.skip rfl rfl rfl ?_
          | refine LexA.build _ rfl rfl rfl rfl rfl ?_
          | refine LexA.sh _ rfl rfl rfl rfl rfl ?_
          | refine LexA.gsplit _ rfl rfl rfl (fun h => ?_) (fun h => ?_)
          | refine LexA.nil ?_
        · exfalso
          exact absurd (Eq.trans (show (((((Oct.cellsL os[i].items).length : Nat) : Int)) != 2) = true from h).symm d2) (by decide)
        have hbl : (x1.bs.map byteRow).length = x1.bs.length := List.length_map _
        have g1 : os[i].items.getD 1 zeroOct = x1 := by rw [hx]; rfl
        have g0 : os[i].items.getD 0 zeroOct = x0 := by rw [hx]; rfl
        refine WpA.cond _ rfl (fun h => ?_) (fun h => ?_)
        · have h' : (((((x1.bs.map byteRow).length : Nat) : Int)) != 32) = true := h
          have hbad : rOk os[i] = false := by
            unfold rOk
            rw [g1, hl2]
            rw [hbl] at h'
            simp only [bne_iff_ne, ne_eq] at h'
            have : ¬ x1.bs.length = 32 := by omega
            simp [this]
          repeat' first
            | refine WpA.seq ?_
            | refine WpA.region ?_
            | refine WpOps.op _ rfl rfl rfl rfl rfl ?_
            | refine WpOps.box _ rfl rfl rfl rfl rfl ?_
            | refine WpOps.alloc _ rfl rfl rfl rfl rfl rfl ?_
            | refine WpOps.store rfl rfl rfl rfl rfl rfl rfl rfl rfl rfl ?_
            | refine WpOps.skip rfl rfl rfl ?_
            | refine WpOps.build _ rfl rfl rfl rfl rfl ?_
            | refine WpOps.sh _ rfl rfl rfl rfl rfl ?_
            | refine WpOps.gsplit _ rfl rfl rfl (fun h => ?_) (fun h => ?_)
            | refine WpA.block ?_
            | refine WpA.exit ?_
            | refine WpOps.nil ?_
            | refine WpA.ret ?_
            | refine WpA.skip ?_
            | refine WpA.condT rfl ?_
            | refine WpA.condF rfl ?_
            | refine WpA.cond _ rfl (fun h => ?_) (fun h => ?_)
            | refine WpA.draw (by kernel_rfl) ?_
            | refine LexA.op _ rfl rfl rfl rfl rfl ?_
            | refine LexA.skip rfl rfl rfl ?_
            | refine LexA.build _ rfl rfl rfl rfl rfl ?_
            | refine LexA.sh _ rfl rfl rfl rfl rfl ?_
            | refine LexA.gsplit _ rfl rfl rfl (fun h => ?_) (fun h => ?_)
            | refine LexA.nil ?_
          exact fail (bad hbad) rfl rfl rfl
        have h' : (((((x1.bs.map byteRow).length : Nat) : Int)) != 32) = false := h
        have hb32 : x1.bs.length = 32 := by
          rw [hbl, bne_eq_false_iff_eq] at h'
          omega
        clear h h'
        have hgood : rOk os[i] = true := by unfold rOk; rw [g1, hl2, hb32]; rfl
        repeat' first
          | refine WpA.seq ?_
          | refine WpA.region ?_
          | refine WpOps.op _ rfl rfl rfl rfl rfl ?_
          | refine WpOps.box _ rfl rfl rfl rfl rfl ?_
          | refine WpOps.alloc _ rfl rfl rfl rfl rfl rfl ?_
          | refine WpOps.store rfl rfl rfl rfl rfl rfl rfl rfl rfl rfl ?_
          | refine WpOps.skip rfl rfl rfl ?_
          | refine WpOps.build _ rfl rfl rfl rfl rfl ?_
          | refine WpOps.sh _ rfl rfl rfl rfl rfl ?_
          | (refine WpOps.elem x0.cells rfl rfl rfl rfl rfl rfl rfl rfl rfl (by decide) hc0 ?_)
          | (refine WpOps.p1 rfl rfl rfl (.slStr x0.bs rfl rfl rfl rfl rfl rfl) ?_)
          | refine WpOps.gsplit _ rfl rfl rfl (fun h => ?_) (fun h => ?_)
          | refine WpA.block ?_
          | refine WpA.exit ?_
          | refine WpOps.nil ?_
          | refine WpA.ret ?_
          | refine WpA.skip ?_
          | refine WpA.condT rfl ?_
          | refine WpA.condF rfl ?_
          | refine WpA.draw (by kernel_rfl) ?_
          | refine LexA.op _ rfl rfl rfl rfl rfl ?_
          | refine LexA.skip rfl rfl rfl ?_
          | refine LexA.build _ rfl rfl rfl rfl rfl ?_
          | refine LexA.sh _ rfl rfl rfl rfl rfl ?_
          | refine LexA.gsplit _ rfl rfl rfl (fun h => ?_) (fun h => ?_)
          | refine LexA.nil ?_
        refine WpA.loopFor 32 (fun k => [(0, .sl .no 1 (b.map byteRow)), (2, .ptr H.length 0 0), (4, .ptr H.length 1 0), (6, .ptr H.length 2 0), (7, .int .i64 ((3 + i : Nat) : Int)), (8, .sl .no 3 (Oct.cellsL os[i].items)), (9, .ptr H.length 4 0), (10, .int .i64 (k : Nat))])
          (fun k => H ++ [.cells [.int .u64 0, .int .i64 0, .int .i64 0, .sl .full 0 []], .cells o.cells, .cells [.int .u64 (numR (o.items.getD 0 zeroOct) 1 : Nat), .int .i64 (timeR (numR (o.items.getD 1 zeroOct) 2)), .int .i64 (timeR (numR (o.items.getD 2 zeroOct) 3)), .sl (.row H.length 3) 33 (rows ((os.take i).map rfileOf))], .tail (rows ((os.take i).map rfileOf)).length 33, .cells (rowK x0.bs x1.bs k)])
          (fun _ => True) trivial ⟨rfl, rfl, rfl, rfl, rfl, rfl, rfl, rfl, trivial⟩ rfl (fun k hk _ => ?_) (fun _ => ?_)
        · have hkb : k < x1.bs.length := by omega
          have hcb : (x1.bs.map byteRow)[((k : Nat) : Int).toNat]? = some (byteRow x1.bs[k]) := bytes_get hkb
          have hlt2 : decide (((k : Nat) : Int) < 32) = true := by simp; omega
          have hk32 : ((k : Nat) : Int) < ((32 : Nat) : Int) := by omega
          have hle : Nat.ble (0 + 1 + ((k : Nat) : Int).toNat * 1 + 1) (rowK x0.bs x1.bs k).length = true := by rw [rowK_len, Int.toNat_natCast]; simp; omega
          repeat' first
            | refine WpA.seq ?_
            | refine WpA.region ?_
            | refine WpOps.op _ rfl rfl rfl rfl rfl ?_
            | refine WpOps.box _ rfl rfl rfl rfl rfl ?_
            | refine WpOps.alloc _ rfl rfl rfl rfl rfl rfl ?_
            | refine WpOps.store rfl rfl rfl rfl rfl rfl rfl rfl rfl rfl ?_
            | refine WpOps.skip rfl rfl rfl ?_
            | refine WpOps.build _ rfl rfl rfl rfl rfl ?_
            | refine WpOps.sh _ rfl rfl rfl rfl rfl ?_
            | refine WpOps.gsplit _ rfl rfl rfl (fun h => ?_) (fun h => ?_)
            | refine WpA.block ?_
            | refine WpA.exit ?_
            | refine WpOps.nil ?_
            | refine WpA.ret ?_
            | refine WpA.skip ?_
            | refine WpA.condT rfl ?_
            | refine WpA.condF rfl ?_
            | refine WpA.draw (by kernel_rfl) ?_
            | refine LexA.op _ rfl rfl rfl rfl rfl ?_
            | refine LexA.skip rfl rfl rfl ?_
            | refine LexA.build _ rfl rfl rfl rfl rfl ?_
            | refine LexA.sh _ rfl rfl rfl rfl rfl ?_
            | refine LexA.gsplit _ rfl rfl rfl (fun h => ?_) (fun h => ?_)
            | refine LexA.nil ?_
          refine WpA.cond true (congrArg AV.bool hlt2) (fun h => ?_) (fun h => by cases h)
          repeat' first
            | refine WpA.seq ?_
            | refine WpA.region ?_
            | refine WpOps.op _ rfl rfl rfl rfl rfl ?_
            | refine WpOps.box _ rfl rfl rfl rfl rfl ?_
            | refine WpOps.alloc _ rfl rfl rfl rfl rfl rfl ?_
            | refine WpOps.store rfl rfl rfl rfl rfl rfl rfl rfl rfl rfl ?_
            | refine WpOps.skip rfl rfl rfl ?_
            | refine WpOps.build _ rfl rfl rfl rfl rfl ?_
            | refine WpOps.sh _ rfl rfl rfl rfl rfl ?_
            | (refine WpOps.elem x1.cells rfl rfl rfl rfl rfl rfl rfl rfl rfl (by decide) hc1 ?_)
            | (refine WpOps.elem (byteRow x1.bs[k]) rfl rfl rfl rfl rfl rfl rfl rfl rfl (Int.natCast_nonneg k) hcb ?_)
            | (refine WpOps.elemA _ rfl rfl rfl rfl rfl rfl rfl (Int.natCast_nonneg k) hk32 rfl ?_)
            | (refine WpOps.store rfl rfl rfl rfl rfl rfl rfl rfl rfl hle ?_)
            | refine WpOps.gsplit _ rfl rfl rfl (fun h => ?_) (fun h => ?_)
            | refine WpA.block ?_
            | refine WpA.exit ?_
            | refine WpOps.nil ?_
            | refine WpA.ret ?_
            | refine WpA.skip ?_
            | refine WpA.condT rfl ?_
            | refine WpA.condF rfl ?_
            | refine WpA.cond _ rfl (fun h => ?_) (fun h => ?_)
            | refine WpA.draw (by kernel_rfl) ?_
            | refine LexA.op _ rfl rfl rfl rfl rfl ?_
            | refine LexA.skip rfl rfl rfl ?_
            | refine LexA.build _ rfl rfl rfl rfl rfl ?_
            | refine LexA.sh _ rfl rfl rfl rfl rfl ?_
            | refine LexA.gsplit _ rfl rfl rfl (fun h => ?_) (fun h => ?_)
            | refine LexA.nil ?_
          refine ⟨trivial, ⟨rfl, rfl, rfl, rfl, rfl, rfl, rfl, congrArg (AV.int .i64) (wrap64 (by omega) (by omega)), trivial⟩, ?_⟩
          have hgd : x1.bs.getD k 0 = x1.bs[k] := by rw [List.getD_eq_getElem?_getD, List.getElem?_eq_getElem hkb]; rfl
          have hp := rowK_put x0.bs x1.bs k hk
          rw [hgd] at hp
          rw [← hp]
          rfl
        · have hfit : ((rows ((os.take i).map rfileOf)).length + 1) * 48 ≤ 140737488355328 := by
            rw [rows_length, List.length_map, List.length_take]; omega
          have hone : ∀ y ∈ [(rfileOf os[i]).row], ∀ a ∈ y, a.one = true := by
            intro y hy a ha
            have hy' := List.mem_singleton.1 hy
            subst hy'
            rcases List.mem_cons.1 ha with rfl | ha
            · rfl
            · obtain ⟨k, _, rfl⟩ := List.mem_map.1 ha
              rfl
          have hrow : rowK x0.bs x1.bs 32 = (rfileOf os[i]).row := by rw [rowK_full, rfileOf, g0, g1]
          have hm : rows ((os.take i).map rfileOf) ++ [(rfileOf os[i]).row] = rows ((os.take (i + 1)).map rfileOf) := by
            rw [List.take_succ_eq_append_getElem hi, rows, rows, List.map_append, List.map_append]; rfl
          rw [hrow]
          repeat' first
            | refine WpA.seq ?_
            | refine WpA.region ?_
            | refine WpOps.op _ rfl rfl rfl rfl rfl ?_
            | refine WpOps.box _ rfl rfl rfl rfl rfl ?_
            | refine WpOps.alloc _ rfl rfl rfl rfl rfl rfl ?_
            | refine WpOps.store rfl rfl rfl rfl rfl rfl rfl rfl rfl rfl ?_
            | refine WpOps.skip rfl rfl rfl ?_
            | refine WpOps.build _ rfl rfl rfl rfl rfl ?_
            | refine WpOps.sh _ rfl rfl rfl rfl rfl ?_
            | (refine WpOps.buildSlice _ rfl rfl rfl rfl rfl rfl rfl rfl rfl rfl rfl ?_)
            | (refine WpOps.appR rfl rfl rfl rfl rfl rfl rfl (fun k h => by cases h) rfl rfl rfl rfl rfl rfl (by exact hone) (by exact hfit) ?_)
            | refine WpOps.gsplit _ rfl rfl rfl (fun h => ?_) (fun h => ?_)
            | refine WpA.block ?_
            | refine WpA.exit ?_
            | refine WpOps.nil ?_
            | refine WpA.ret ?_
            | refine WpA.skip ?_
            | refine WpA.condT rfl ?_
            | refine WpA.condF rfl ?_
            | refine WpA.cond _ rfl (fun h => ?_) (fun h => ?_)
            | refine WpA.draw (by kernel_rfl) ?_
            | refine LexA.op _ rfl rfl rfl rfl rfl ?_
            | refine LexA.skip rfl rfl rfl ?_
            | refine LexA.build _ rfl rfl rfl rfl rfl ?_
            | refine LexA.sh _ rfl rfl rfl rfl rfl ?_
            | refine LexA.gsplit _ rfl rfl rfl (fun h => ?_) (fun h => ?_)
            | refine LexA.nil ?_
          refine ⟨by rw [hok1]; exact hgood, ⟨rfl, rfl, rfl, rfl, congrArg (AV.int .i64) (wrap64 (by omega) (by omega)), trivial⟩, [.cells (rfileOf os[i]).row], ?_⟩
          rw [← hm]
          exact grow rfl
      · have d2 : (((((Oct.cellsL os[i].items).length : Nat) : Int)) != 2) = true := by rw [hcli]; simp; omega
        have hbad : rOk os[i] = false := by unfold rOk; simp [hl2]
        repeat' first
          | refine WpA.seq ?_
          | refine WpA.region ?_
          | refine WpOps.op _ rfl rfl rfl rfl rfl ?_
          | refine WpOps.box _ rfl rfl rfl rfl rfl ?_
          | refine WpOps.alloc _ rfl rfl rfl rfl rfl rfl ?_
          | refine WpOps.store rfl rfl rfl rfl rfl rfl rfl rfl rfl rfl ?_
          | refine WpOps.skip rfl rfl rfl ?_
          | refine WpOps.build _ rfl rfl rfl rfl rfl ?_
          | refine WpOps.sh _ rfl rfl rfl rfl rfl ?_
          | refine WpOps.gsplit _ rfl rfl rfl (fun h => ?_) (fun h => ?_)
          | refine WpA.block ?_
          | refine WpA.exit ?_
          | refine WpOps.nil ?_
          | refine WpA.ret ?_
          | refine WpA.skip ?_
          | refine WpA.condT rfl ?_
          | refine WpA.condF rfl ?_
          | refine WpA.draw (by kernel_rfl) ?_
          | refine LexA.op _ rfl rfl rfl rfl rfl ?_
          | refine LexA.skip rfl rfl rfl ?_
          | refine LexA.build _ rfl rfl rfl rfl rfl ?_
          | refine LexA.sh _ rfl rfl rfl rfl rfl ?_
          | refine LexA.gsplit _ rfl rfl rfl (fun h => ?_) (fun h => ?_)
          | refine LexA.nil ?_
        refine WpA.cond true (congrArg AV.bool hlt) (fun h => ?_) (fun h => by cases h)
        repeat' first
          | refine WpA.seq ?_
          | refine WpA.region ?_
          | refine WpOps.op _ rfl rfl rfl rfl rfl ?_
          | refine WpOps.box _ rfl rfl rfl rfl rfl ?_
          | refine WpOps.alloc _ rfl rfl rfl rfl rfl rfl ?_
          | refine WpOps.store rfl rfl rfl rfl rfl rfl rfl rfl rfl rfl ?_
          | refine WpOps.skip rfl rfl rfl ?_
          | refine WpOps.build _ rfl rfl rfl rfl rfl ?_
          | refine WpOps.sh _ rfl rfl rfl rfl rfl ?_
          | (refine WpOps.elem (os[i]).cells rfl rfl rfl rfl rfl rfl rfl rfl rfl (Int.natCast_nonneg _) hc ?_)
          | refine WpOps.gsplit _ rfl rfl rfl (fun h => ?_) (fun h => ?_)
          | refine WpA.block ?_
          | refine WpA.exit ?_
          | refine WpOps.nil ?_
          | refine WpA.ret ?_
          | refine WpA.skip ?_
          | refine WpA.condT rfl ?_
          | refine WpA.condF rfl ?_
          | refine WpA.cond _ rfl (fun h => ?_) (fun h => ?_)
          | refine WpA.draw (by kernel_rfl) ?_
          | refine LexA.op _ rfl rfl rfl rfl rfl ?_
          | refine LexA.skip rfl rfl rfl ?_
          | refine LexA.build _ rfl rfl rfl rfl rfl ?_
          | refine LexA.sh _ rfl rfl rfl rfl rfl ?_
          | refine LexA.gsplit _ rfl rfl rfl (fun h => ?_) (fun h => ?_)
          | refine LexA.nil ?_
        · exact fail (bad hbad) rfl rfl rfl
        all_goals
          exfalso
          rename_i h0
          first
            | exact absurd (Eq.trans (show (((((Oct.cellsL os[i].items).length : Nat) : Int)) != 2) = false from h).symm d2) (by decide)
            | exact absurd (Eq.trans (show (((((Oct.cellsL os[i].items).length : Nat) : Int)) != 2) = false from h0).symm d2) (by decide)
    · have htk : os.take os.length = os := List.take_length
      have hlt : decide (((3 + os.length : Nat) : Int) < ((Oct.cellsL o.items).length : Nat)) = false := by rw [hcl]; simp; omega
      obtain ⟨m, hm⟩ : ∃ m, m = rdMan o := ⟨_, rfl⟩
      have hmc : m = ⟨(numR (o.items.getD 0 zeroOct) 1 : Nat), timeR (numR (o.items.getD 1 zeroOct) 2), timeR (numR (o.items.getD 2 zeroOct) 3), (os.take os.length).map rfileOf⟩ := by rw [hm, rdMan, htk, hos]
      have hmv : ∀ tg, (AV.agg [.int .u64 (numR (o.items.getD 0 zeroOct) 1 : Nat), .int .i64 (timeR (numR (o.items.getD 1 zeroOct) 2)), .int .i64 (timeR (numR (o.items.getD 2 zeroOct) 3)), .sl tg 33 (rows ((os.take os.length).map rfileOf))]) = m.av tg := fun tg => by rw [hmc]
      have hv0 : 0 ≤ m.v := by rw [hmc]; exact Int.natCast_nonneg _
      have hv1 : m.v < 18446744073709551616 := by
        rw [hmc]
        have := numR_lt (o.items.getD 0 zeroOct) 1
        show ((numR (o.items.getD 0 zeroOct) 1 : Nat) : Int) < _
        omega
      have hfl : m.fs.length ≤ 1000000000000000 := by rw [hmc]; show ((os.take os.length).map rfileOf).length ≤ _; rw [List.length_map, htk]; omega
      have hCk : ∀ (tg : Tag) H, CallsA E 10 [.agg [.int .u64 (numR (o.items.getD 0 zeroOct) 1 : Nat), .int .i64 (timeR (numR (o.items.getD 1 zeroOct) 2)), .int .i64 (timeR (numR (o.items.getD 2 zeroOct) 3)), .sl tg 33 (rows ((os.take os.length).map rfileOf))]] H (Is H (.int .i64 (check m))) := fun tg H => by
        rw [hmv]
        have := refCheck_A m H hfl
        exact CallsA.subL (vs := [m.av .no]) ⟨Sub.agg (vs := [.int .u64 m.v, .int .i64 m.a, .int .i64 m.b, .sl .no 33 (rows m.fs)]) ⟨Sub.refl _, Sub.refl _, Sub.refl _, Sub.untag, trivial⟩, trivial⟩ this
      have hdm : refDecM b = if check m = 0 ∧ (manO m).enc = b then some m else none := by
        rw [refDecM, ← ho, ← he0, ← hos]
        rw [htk] at hok
        rw [← hm]
        by_cases hc : check m = 0 ∧ (manO m).enc = b
        · rw [if_pos hc, if_pos ⟨rfl, h3, hok, hc.1, hc.2⟩]
        · rw [if_neg hc, if_neg (fun h => hc ⟨h.2.2.2.1, h.2.2.2.2⟩)]
      repeat' first
        | refine WpA.seq ?_
        | refine WpA.region ?_
        | refine WpOps.op _ rfl rfl rfl rfl rfl ?_
        | refine WpOps.box _ rfl rfl rfl rfl rfl ?_
        | refine WpOps.alloc _ rfl rfl rfl rfl rfl rfl ?_
        | refine WpOps.store rfl rfl rfl rfl rfl rfl rfl rfl rfl rfl ?_
        | refine WpOps.skip rfl rfl rfl ?_
        | refine WpOps.build _ rfl rfl rfl rfl rfl ?_
        | refine WpOps.sh _ rfl rfl rfl rfl rfl ?_
        | refine WpOps.gsplit _ rfl rfl rfl (fun h => ?_) (fun h => ?_)
        | refine WpA.block ?_
        | refine WpA.exit ?_
        | refine WpOps.nil ?_
        | refine WpA.ret ?_
        | refine WpA.skip ?_
        | refine WpA.condT rfl ?_
        | refine WpA.condF rfl ?_
        | refine WpA.draw (by kernel_rfl) ?_
        | refine LexA.op _ rfl rfl rfl rfl rfl ?_
        | refine LexA.skip rfl rfl rfl ?_
        | refine LexA.build _ rfl rfl rfl rfl rfl ?_
        | refine LexA.sh _ rfl rfl rfl rfl rfl ?_
        | refine LexA.gsplit _ rfl rfl rfl (fun h => ?_) (fun h => ?_)
        | refine LexA.nil ?_
      refine WpA.cond false (congrArg AV.bool hlt) (fun h => by cases h) (fun h => ?_)
      clear h
      by_cases hc : check m = 0
      · have hC0 : ∀ (tg : Tag) H, CallsA E 10 [.agg [.int .u64 (numR (o.items.getD 0 zeroOct) 1 : Nat), .int .i64 (timeR (numR (o.items.getD 1 zeroOct) 2)), .int .i64 (timeR (numR (o.items.getD 2 zeroOct) 3)), .sl tg 33 (rows ((os.take os.length).map rfileOf))]] H (Is H (.int .i64 0)) := fun tg H => by have := hCk tg H; rw [hc] at this; exact this
        have hV : ∀ (tg : Tag) H, CallsA E 32 [.agg [.int .u64 (numR (o.items.getD 0 zeroOct) 1 : Nat), .int .i64 (timeR (numR (o.items.getD 1 zeroOct) 2)), .int .i64 (timeR (numR (o.items.getD 2 zeroOct) 3)), .sl tg 33 (rows ((os.take os.length).map rfileOf))]] H (Is H (.agg (manO m).cells)) := fun tg H => by
          rw [hmv]; exact rValue_A m H hv0 hv1 hc tg
        have hsm := manO_small hc (by omega)
        have hP := fun H => rPut_A (manO m) H (by omega)
        have hS := fun H => sameBytes_A (manO m).enc b .no .no H (by rw [enc_length]; omega)
        repeat' first
          | refine WpA.seq ?_
          | refine WpA.region ?_
          | refine WpOps.op _ rfl rfl rfl rfl rfl ?_
          | refine WpOps.box _ rfl rfl rfl rfl rfl ?_
          | refine WpOps.alloc _ rfl rfl rfl rfl rfl rfl ?_
          | refine WpOps.store rfl rfl rfl rfl rfl rfl rfl rfl rfl rfl ?_
          | refine WpOps.skip rfl rfl rfl ?_
          | refine WpOps.build _ rfl rfl rfl rfl rfl ?_
          | refine WpOps.sh _ rfl rfl rfl rfl rfl ?_
          | (refine WpOps.call rfl rfl rfl rfl rfl (by exact hC0 _ _) ?_; rintro _ _ ⟨rfl, rfl⟩)
          | (refine WpOps.call rfl rfl rfl rfl rfl (by exact hV _ _) ?_; rintro _ _ ⟨rfl, rfl⟩)
          | (refine WpOps.call rfl rfl rfl rfl rfl (by exact hP _) ?_; rintro _ _ ⟨rfl, rfl⟩)
          | (refine WpOps.call rfl rfl rfl rfl rfl (by exact hS _) ?_; rintro _ _ ⟨rfl, rfl⟩)
          | refine WpOps.gsplit _ rfl rfl rfl (fun h => ?_) (fun h => ?_)
          | refine WpA.block ?_
          | refine WpA.exit ?_
          | refine WpOps.nil ?_
          | refine WpA.ret ?_
          | refine WpA.skip ?_
          | refine WpA.condT rfl ?_
          | refine WpA.condF rfl ?_
          | refine WpA.cond _ rfl (fun h => ?_) (fun h => ?_)
          | refine WpA.draw (by kernel_rfl) ?_
          | refine LexA.op _ rfl rfl rfl rfl rfl ?_
          | refine LexA.skip rfl rfl rfl ?_
          | refine LexA.build _ rfl rfl rfl rfl rfl ?_
          | refine LexA.sh _ rfl rfl rfl rfl rfl ?_
          | refine LexA.call rfl rfl rfl rfl rfl (by exact hC0 _ _) ?_
          | refine LexA.call rfl rfl rfl rfl rfl (by exact hV _ _) ?_
          | refine LexA.call rfl rfl rfl rfl rfl (by exact hP _) ?_
          | refine LexA.call rfl rfl rfl rfl rfl (by exact hS _) ?_
          | refine LexA.gsplit _ rfl rfl rfl (fun h => ?_) (fun h => ?_)
          | refine LexA.nil ?_
        · have hn : refDecM b = none := by
            rw [hdm, if_neg]
            rintro ⟨_, h2⟩
            rw [h2] at h
            simp at h
          exact fail hn rfl rfl rfl
        · have he : (manO m).enc = b := by simpa using h
          have hn : refDecM b = some m := by rw [hdm, if_pos ⟨hc, he⟩]
          have e : refDecR b = .tup [m.av .no, .int .i64 0] := by unfold refDecR; rw [hn]
          rw [e]
          refine retK.sub (.inr rfl) rfl (TrOk.refl H) (L := _) rfl rfl (Sub.tup (vs := [m.av .no, .int .i64 0]) ⟨?_, Sub.refl _, trivial⟩) (man_bd _ _ _) ⟨rfl, rfl⟩
          show Sub (AV.agg [.int .u64 (numR (o.items.getD 0 zeroOct) 1 : Nat), .int .i64 (timeR (numR (o.items.getD 1 zeroOct) 2)), .int .i64 (timeR (numR (o.items.getD 2 zeroOct) 3)), .sl (.row H.length 3) 33 (rows ((os.take os.length).map rfileOf))]) _
          rw [hmv]
          exact Sub.agg (vs := [.int .u64 m.v, .int .i64 m.a, .int .i64 m.b, .sl .no 33 (rows m.fs)]) ⟨Sub.refl _, Sub.refl _, Sub.refl _, Sub.untag, trivial⟩
      · have hn : refDecM b = none := by rw [hdm, if_neg (fun h => hc h.1)]
        have hne : (check m != 0) = true := by simpa using hc
        repeat' first
          | refine WpA.seq ?_
          | refine WpA.region ?_
          | refine WpOps.op _ rfl rfl rfl rfl rfl ?_
          | refine WpOps.box _ rfl rfl rfl rfl rfl ?_
          | refine WpOps.alloc _ rfl rfl rfl rfl rfl rfl ?_
          | refine WpOps.store rfl rfl rfl rfl rfl rfl rfl rfl rfl rfl ?_
          | refine WpOps.skip rfl rfl rfl ?_
          | refine WpOps.build _ rfl rfl rfl rfl rfl ?_
          | refine WpOps.sh _ rfl rfl rfl rfl rfl ?_
          | (refine WpOps.call rfl rfl rfl rfl rfl (by exact hCk _ _) ?_; rintro _ _ ⟨rfl, rfl⟩)
          | refine WpOps.gsplit _ rfl rfl rfl (fun h => ?_) (fun h => ?_)
          | refine WpA.block ?_
          | refine WpA.exit ?_
          | refine WpOps.nil ?_
          | refine WpA.ret ?_
          | refine WpA.skip ?_
          | refine WpA.condT rfl ?_
          | refine WpA.condF rfl ?_
          | refine WpA.cond _ rfl (fun h => ?_) (fun h => ?_)
          | refine WpA.draw (by kernel_rfl) ?_
          | refine LexA.op _ rfl rfl rfl rfl rfl ?_
          | refine LexA.skip rfl rfl rfl ?_
          | refine LexA.build _ rfl rfl rfl rfl rfl ?_
          | refine LexA.sh _ rfl rfl rfl rfl rfl ?_
          | refine LexA.call rfl rfl rfl rfl rfl (by exact hCk _ _) ?_
          | refine LexA.gsplit _ rfl rfl rfl (fun h => ?_) (fun h => ?_)
          | refine LexA.nil ?_
        · exact fail hn rfl rfl rfl
        all_goals
          exfalso
          rename_i h0
          exact absurd (Eq.trans (show (check m != 0) = false from h0).symm hne) (by decide)
  · have hn : refDecM b = none := by
      rw [refDecM, if_neg]
      rintro ⟨h1, h2, _⟩
      rw [← he0] at h1
      rw [← ho] at h2
      exact hgo ⟨h1, h2⟩
    repeat' first
      | refine WpA.seq ?_
      | refine WpA.region ?_
      | refine WpOps.op _ rfl rfl rfl rfl rfl ?_
      | refine WpOps.box _ rfl rfl rfl rfl rfl ?_
      | refine WpOps.alloc _ rfl rfl rfl rfl rfl rfl ?_
      | refine WpOps.store rfl rfl rfl rfl rfl rfl rfl rfl rfl rfl ?_
      | refine WpOps.skip rfl rfl rfl ?_
      | refine WpOps.build _ rfl rfl rfl rfl rfl ?_
      | refine WpOps.sh _ rfl rfl rfl rfl rfl ?_
      | (refine WpOps.call rfl rfl rfl rfl rfl (by exact hD _) ?_; rintro _ _ ⟨rfl, rfl⟩)
      | refine WpOps.gsplit _ rfl rfl rfl (fun h => ?_) (fun h => ?_)
      | refine WpA.block ?_
      | refine WpA.exit ?_
      | refine WpOps.nil ?_
      | refine WpA.ret ?_
      | refine WpA.skip ?_
      | refine WpA.condT rfl ?_
      | refine WpA.condF rfl ?_
      | refine WpA.cond _ rfl (fun h => ?_) (fun h => ?_)
      | refine WpA.draw (by kernel_rfl) ?_
      | refine LexA.op _ rfl rfl rfl rfl rfl ?_
      | refine LexA.skip rfl rfl rfl ?_
      | refine LexA.build _ rfl rfl rfl rfl rfl ?_
      | refine LexA.sh _ rfl rfl rfl rfl rfl ?_
      | refine LexA.call rfl rfl rfl rfl rfl (by exact hD _) ?_
      | refine LexA.gsplit _ rfl rfl rfl (fun h => ?_) (fun h => ?_)
      | refine LexA.nil ?_
    · exact fail hn rfl rfl rfl
    · exact fail hn rfl rfl rfl
    · exfalso
      rename_i h0
      have h1 : e0 = 0 := by simpa using h0
      have h2 := of_decide_eq_false (show decide ((((Oct.cellsL o.items).length : Nat) : Int) < 3) = false from h)
      exact hgo ⟨h1, by omega⟩
end Go.Gp.Try

/- The octet codec: values are read back; manifests. -/
namespace Go.Gp.Try
open Go.Proofs
set_option linter.unusedVariables false
set_option linter.unusedSimpArgs false
set_option maxRecDepth 100000
set_option maxHeartbeats 1000000

theorem good_iff (t : UInt8) (bs : List UInt8) (is : List Oct) : (Oct.mk t bs is).good = true ↔ (0 < t.toNat ∧ (128 ≤ t.toNat ∨ is.length = 0) ∧ (t.toNat < 128 ∨ bs.length = 0)) := by
  show ((decide (0 < t.toNat) && (decide (128 ≤ t.toNat) || is.length == 0)) && (decide (t.toNat < 128) || bs.length == 0)) = true ↔ _
  simp only [Bool.and_eq_true, Bool.or_eq_true, decide_eq_true_eq, beq_iff_eq, and_assoc]

theorem parse_enc : ∀ (k : Nat) (o : Oct) (r : List UInt8), o.shp = true → o.size ≤ 16777216 → o.dep ≤ k → parse k (o.enc ++ r) = some (o, r)
  | 0, o, r, _, _, hd => by have := dep_pos o; omega
  | k + 1, .mk t bs is, r, hs, hz, hd => by
    rw [size_mk] at hz
    rw [shp_mk, Bool.and_eq_true, good_iff] at hs
    rw [dep_mk] at hd
    obtain ⟨⟨g1, g2, g3⟩, g4⟩ := hs
    have hcl : (bs ++ Oct.encL is).length = bs.length + Oct.sizeL is := by rw [List.length_append, encL_length]
    have he : (Oct.mk t bs is).enc ++ r = t :: (lenB (bs ++ Oct.encL is).length ++ ((bs ++ Oct.encL is) ++ r)) := by
      rw [enc_mk]; simp
    rw [he, parse_cons, lenOf_lenB (by omega)]
    have htk : ((bs ++ Oct.encL is) ++ r).take (bs ++ Oct.encL is).length = bs ++ Oct.encL is := List.take_left' rfl
    have hdr : ((bs ++ Oct.encL is) ++ r).drop (bs ++ Oct.encL is).length = r := List.drop_left' rfl
    have hle : (bs ++ Oct.encL is).length ≤ ((bs ++ Oct.encL is) ++ r).length := by
      have h9 : ∀ a b : List UInt8, a.length ≤ (a ++ b).length := fun a b => by rw [List.length_append]; omega
      exact h9 _ _
    show (if (bs ++ Oct.encL is).length ≤ ((bs ++ Oct.encL is) ++ r).length then _ else none) = _
    rw [if_pos hle, htk, hdr]
    by_cases ht : t.toNat < 128
    · rw [if_pos ht]
      have his : is = [] := by
        rcases g2 with h | h
        · omega
        · exact List.length_eq_zero_iff.1 h
      subst his
      rw [encL_nil, List.append_nil]
    · rw [if_neg ht]
      have hbs : bs = [] := by
        rcases g3 with h | h
        · omega
        · exact List.length_eq_zero_iff.1 h
      subst hbs
      rw [List.nil_append]
      have hall : ∀ (l : List Oct), (∀ x ∈ l, x.shp = true ∧ x.size ≤ 16777216 ∧ x.dep ≤ k) → parseAll k (Oct.encL l) = some l := by
        intro l
        induction l with
        | nil => intro _; rw [encL_nil, parseAll_nil]
        | cons a l ih =>
          intro h
          obtain ⟨h1, h2, h3⟩ := h a List.mem_cons_self
          have hp := parse_enc k a (Oct.encL l) h1 h2 h3
          rw [encL_cons]
          have hne : a.enc ++ Oct.encL l ≠ [] := by
            intro e
            have := congrArg List.length e
            rw [List.length_append, enc_length] at this
            have := size_pos a
            simp at *
            omega
          obtain ⟨c, q, hcq⟩ := List.exists_cons_of_ne_nil hne
          rw [hcq, parseAll_cons, ← hcq, hp]
          show (parseAll k (Oct.encL l)).map (a :: ·) = _
          rw [ih fun x hx => h x (List.mem_cons_of_mem _ hx)]
          rfl
      have := hall is fun x hx => by
        refine ⟨?_, ?_, ?_⟩
        · rw [List.all_eq_true] at g4
          exact g4 _ (List.mem_map_of_mem hx)
        · obtain ⟨i, hi, rfl⟩ := List.mem_iff_getElem.1 hx
          have := size_get hi
          omega
        · have h5 := (foldl_max_le (l := is.map Oct.dep) (a := 0) (b := (is.map Oct.dep).foldl max 0)).1 (Nat.le_refl _)
          have := h5.2 _ (List.mem_map_of_mem hx)
          omega
      rw [this]
      rfl

/-! ### Manifests -/
theorem leaf_shp (t : UInt8) (bs : List UInt8) (h0 : 0 < t.toNat) (h1 : t.toNat < 128) : (Oct.mk t bs []).shp = true := by
  rw [shp_mk, Bool.and_eq_true, good_iff]
  exact ⟨⟨h0, .inr rfl, .inl h1⟩, rfl⟩
theorem leaf_cnt (t : UInt8) (bs : List UInt8) : (Oct.mk t bs []).cnt = 1 := by rw [cnt_mk]; rfl
theorem leaf_dep (t : UInt8) (bs : List UInt8) : (Oct.mk t bs []).dep = 1 := by rw [dep_mk]; rfl
theorem fileO_shp (f : File) : (fileO f).shp = true := by
  rw [fileO, shp_mk, Bool.and_eq_true, good_iff]
  refine ⟨⟨by decide, .inl (by decide), .inr rfl⟩, ?_⟩
  simp only [List.map_cons, List.map_nil, List.all_cons, List.all_nil, strO, leaf_shp 1 _ (by decide) (by decide), leaf_shp 2 _ (by decide) (by decide)]
  rfl
theorem fileO_cnt (f : File) : (fileO f).cnt = 3 := by
  rw [fileO, cnt_mk]
  simp only [List.map_cons, List.map_nil, List.sum_cons, List.sum_nil, strO, leaf_cnt]
  rfl
theorem fileO_dep (f : File) : (fileO f).dep = 2 := by
  rw [fileO, dep_mk]
  simp only [List.map_cons, List.map_nil, List.foldl_cons, List.foldl_nil, strO, leaf_dep]
  rfl
theorem manO_shp (m : Man) : (manO m).shp = true := by
  rw [manO, shp_mk, Bool.and_eq_true, good_iff]
  refine ⟨⟨by decide, .inl (by decide), .inr rfl⟩, ?_⟩
  rw [List.map_append, List.all_append, Bool.and_eq_true]
  refine ⟨?_, ?_⟩
  · simp only [manHead, List.map_cons, List.map_nil, List.all_cons, List.all_nil, numO, leaf_shp 1 _ (by decide) (by decide), leaf_shp 2 _ (by decide) (by decide), leaf_shp 3 _ (by decide) (by decide)]
    rfl
  · rw [List.all_eq_true]
    intro x hx
    obtain ⟨y, hy, rfl⟩ := List.mem_map.1 hx
    obtain ⟨f, _, rfl⟩ := List.mem_map.1 hy
    exact fileO_shp f
theorem manO_cnt (m : Man) : (manO m).cnt = 4 + 3 * m.fs.length := by
  have : ∀ fs : List File, ((fs.map fileO).map Oct.cnt).sum = 3 * fs.length := by
    intro fs
    induction fs with
    | nil => rfl
    | cons f fs ih => rw [List.map_cons, List.map_cons, List.sum_cons, ih, fileO_cnt, List.length_cons]; omega
  rw [manO, cnt_mk, List.map_append, List.sum_append, this]
  simp only [manHead, List.map_cons, List.map_nil, List.sum_cons, List.sum_nil, numO, leaf_cnt]
  omega
theorem manO_dep (m : Man) : (manO m).dep ≤ 3 := by
  rw [manO, dep_mk]
  have : ((manHead m ++ m.fs.map fileO).map Oct.dep).foldl max 0 ≤ 2 := foldl_max_le.2 ⟨by omega, fun x hx => by
    obtain ⟨y, hy, rfl⟩ := List.mem_map.1 hx
    rcases List.mem_append.1 hy with hy | hy
    · simp only [manHead, List.mem_cons, List.not_mem_nil, or_false] at hy
      rcases hy with rfl | rfl | rfl <;> (rw [numO, leaf_dep]; omega)
    · obtain ⟨f, _, rfl⟩ := List.mem_map.1 hy
      rw [fileO_dep]; omega⟩
  omega

theorem manO_check {m : Man} (h : check m = 0) (hv : m.v.toNat < 18446744073709551616) : checkP (manO m) = 0 := by
  obtain ⟨g1, _⟩ := check_good h
  have h1 := manO_small h hv
  have h2 := rsz_le_size (manO m)
  rw [← checks_same, refChk, if_neg, if_pos (manO_shp m), if_neg (by omega)]
  have := manO_dep m
  rw [manO_cnt]
  omega

theorem decP_enc {m : Man} (h : check m = 0) (hv : m.v.toNat < 18446744073709551616) : decP (manO m).enc = (manO m, 0) := by
  have h1 := manO_small h hv
  have h2 := parse_enc 12 (manO m) [] (manO_shp m) (by omega) (by have := manO_dep m; omega)
  rw [List.append_nil] at h2
  rw [decP, if_neg (by rw [enc_length]; omega), h2]
  show (if checkP (manO m) = 0 then _ else _) = _
  rw [if_pos (manO_check h hv)]
end Go.Gp.Try

/- Manifests: both decodings agree. -/
namespace Go.Gp.Try
open Go.Proofs
set_option linter.unusedVariables false
set_option linter.unusedSimpArgs false
set_option maxRecDepth 100000
set_option maxHeartbeats 1000000

theorem orI_zero {a b : Int} : orI a b = 0 ↔ a = 0 ∧ b = 0 := by
  unfold orI
  by_cases h : a = 0
  · rw [if_pos h]; simp [h]
  · rw [if_neg h]; simp [h]

def fileErr0 (x : Oct) : Prop := (rs x 0 1 40).2 = 0 ∧ (rs x 1 2 32).2 = 0 ∧ ¬ (rs x 1 2 32).1.length < 32
theorem stepE_zero {e : Int} {x : Oct} : stepE e x = 0 ↔ e = 0 ∧ fileErr0 x := by
  unfold stepE fileErr0
  rw [orI_zero, orI_zero, orI_zero]
  by_cases h : (rs x 1 2 32).1.length < 32
  · rw [if_pos h]; simp [h]
  · rw [if_neg h]; simp [h, and_assoc]
theorem errAt_zero : ∀ {os : List Oct} {e : Int}, errAt e os = 0 ↔ e = 0 ∧ ∀ x ∈ os, fileErr0 x
  | [], e => by simp [errAt]
  | x :: os, e => by
    have : errAt e (x :: os) = errAt (stepE e x) os := rfl
    rw [this, errAt_zero, stepE_zero]
    simp [and_assoc]
theorem err3_zero {o : Oct} : err3 o = 0 ↔ (numAt o 0 big).2 = 0 ∧ (numAt o 1 tmax).2 = 0 ∧ (numAt o 2 tmax).2 = 0 := by
  unfold err3
  rw [orI_zero, orI_zero, orI_zero]
  omega

theorem readNum_zero {x : Oct} {t : UInt8} {most : Nat} (h : (readNum x t most).2 = 0) : x = numO t (beVal 0 x.bs) ∧ (readNum x t most).1 = beVal 0 x.bs ∧ beVal 0 x.bs ≤ most ∧ beVal 0 x.bs < 18446744073709551616 := by
  unfold readNum at h ⊢
  split at h
  · rename_i hc
    obtain ⟨h1, h2, h3, h4, h5⟩ := hc
    rw [if_pos ⟨h1, h2, h3, h4, h5⟩]
    refine ⟨?_, rfl, h5, beVal_le8 h3⟩
    obtain ⟨tg, bs, is⟩ := x
    have h1' : tg = t := h1
    have h2' : is = [] := List.length_eq_zero_iff.1 h2
    subst h1'; subst h2'
    show Oct.mk tg bs [] = Oct.mk tg (be (beVal 0 bs)) []
    rw [be_canon bs h4]
  · cases h

theorem cellsL_nil {is : List Oct} (h : Oct.cellsL is = []) : is = [] := by
  have := congrArg List.length h
  rw [cellsL_length] at this
  exact List.length_eq_zero_iff.1 this

theorem readStr_zero {x : Oct} {t : UInt8} {n : Int} (h : (readStr x.tag x.bs (Oct.cellsL x.items) t n).2 = 0) : x = strO t x.bs ∧ (readStr x.tag x.bs (Oct.cellsL x.items) t n).1 = x.bs ∧ (x.bs.length : Int) ≤ n := by
  unfold readStr at h ⊢
  split at h
  · rename_i hc
    obtain ⟨h1, h2, h3⟩ := hc
    rw [if_pos ⟨h1, h2, h3⟩]
    refine ⟨?_, rfl, h3⟩
    obtain ⟨tg, bs, is⟩ := x
    have h1' : tg = t := by
      have h9 : (tg == t) = true := h1
      simpa using h9
    have h2' : is = [] := cellsL_nil h2
    subst h1'; subst h2'
    rfl
  · cases h

theorem hs_of (l : List UInt8) (h : l.length = 32) : (File.mk [] fun j => l.getD j 0).hs = l := by
  show (List.range 32).map (fun j => l.getD j 0) = l
  apply List.ext_getElem
  · simp [h]
  · intro i h1 h2
    simp only [List.getElem_map, List.getElem_range]
    rw [List.getD_eq_getElem?_getD, List.getElem?_eq_getElem h2]
    rfl

theorem file_same {x : Oct} (h : seqOk x 129 2 2 = true) (he : fileErr0 x) : x = fileO (fileOf x) ∧ fileOf x = rfileOf x ∧ rOk x = true := by
  obtain ⟨e1, e2, e3⟩ := he
  simp only [seqOk, Bool.and_eq_true, beq_iff_eq, decide_eq_true_eq] at h
  obtain ⟨⟨⟨h1, h2⟩, h3⟩, h4⟩ := h
  obtain ⟨tg, bs, is⟩ := x
  have h1' : tg = 129 := h1
  have h2' : bs = [] := List.length_eq_zero_iff.1 h2
  subst h1'; subst h2'
  have hl : is.length = 2 := by have : is.length ≤ 2 := h4; have : 2 ≤ is.length := h3; omega
  obtain ⟨x0, x1, rfl⟩ : ∃ x0 x1, is = [x0, x1] := by
    match is, hl with
    | [x0, x1], _ => exact ⟨x0, x1, rfl⟩
  obtain ⟨a1, a2, a3⟩ := readStr_zero (x := x0) (t := 1) (n := 40) e1
  obtain ⟨b1, b2, b3⟩ := readStr_zero (x := x1) (t := 2) (n := 32) e2
  have r0 : (rs (Oct.mk 129 [] [x0, x1]) 0 1 40).1 = x0.bs := a2
  have r1 : (rs (Oct.mk 129 [] [x0, x1]) 1 2 32).1 = x1.bs := b2
  rw [r1] at e3
  have hl32 : x1.bs.length = 32 := by omega
  have hf : fileOf (Oct.mk 129 [] [x0, x1]) = ⟨x0.bs, fun j => x1.bs.getD j 0⟩ := by
    rw [fileOf, r0, r1]
  refine ⟨?_, ?_, ?_⟩
  · rw [hf, fileO]
    have hh : (File.mk x0.bs fun j => x1.bs.getD j 0).hs = x1.bs := hs_of x1.bs hl32
    rw [hh]
    show _ = Oct.mk 129 [] [strO 1 x0.bs, strO 2 x1.bs]
    rw [← a1, ← b1]
  · rw [hf]; rfl
  · show ((2 : Nat) == 2 && x1.bs.length == 32) = true
    rw [hl32]; rfl

theorem man_same {o : Oct} (h : seqOk o 128 3 203 = true) (h3 : err3 o = 0) (hf : ∀ x ∈ o.items.drop 3, seqOk x 129 2 2 = true ∧ fileErr0 x) : o = manO (manOf o) ∧ manOf o = rdMan o ∧ (o.items.drop 3).all rOk = true ∧ 3 ≤ o.items.length := by
  simp only [seqOk, Bool.and_eq_true, beq_iff_eq, decide_eq_true_eq] at h
  obtain ⟨⟨⟨h1, h2⟩, hl1⟩, hl2⟩ := h
  obtain ⟨tg, bs, is⟩ := o
  have h1' : tg = 128 := h1
  have h2' : bs = [] := List.length_eq_zero_iff.1 h2
  subst h1'; subst h2'
  have hl1' : 3 ≤ is.length := hl1
  obtain ⟨x0, x1, x2, l, rfl⟩ : ∃ x0 x1 x2 l, is = x0 :: x1 :: x2 :: l := by
    match is, hl1' with
    | x0 :: x1 :: x2 :: l, _ => exact ⟨x0, x1, x2, l, rfl⟩
  obtain ⟨n0, n1, n2⟩ := err3_zero.1 h3
  obtain ⟨a1, a2, a3, a4⟩ := readNum_zero (x := x0) (t := 1) (most := big) n0
  obtain ⟨b1, b2, b3, b4⟩ := readNum_zero (x := x1) (t := 2) (most := tmax) n1
  obtain ⟨c1, c2, c3, c4⟩ := readNum_zero (x := x2) (t := 3) (most := tmax) n2
  have hfl : ∀ x ∈ l, seqOk x 129 2 2 = true ∧ fileErr0 x := hf
  have hnum : ∀ (x : Oct) (t : UInt8) (v : Nat), x = numO t v → v < 18446744073709551616 → numR x t = v := fun x t v hx hv => by
    have hr : readNum x t big = (v, 0) := by
      have hb := be_val hv
      have hl := be_len8 (x := v) (by simpa using hv)
      subst hx
      unfold readNum
      have hbs : (numO t v).bs = be v := rfl
      rw [hbs, hb, if_pos ⟨rfl, rfl, hl, be_head v, by unfold big; omega⟩]
    unfold numR
    rw [hr]; rfl
  have v0 : (numAt (Oct.mk 128 [] (x0 :: x1 :: x2 :: l)) 0 big).1 = beVal 0 x0.bs := a2
  have v1 : (numAt (Oct.mk 128 [] (x0 :: x1 :: x2 :: l)) 1 tmax).1 = beVal 0 x1.bs := b2
  have v2 : (numAt (Oct.mk 128 [] (x0 :: x1 :: x2 :: l)) 2 tmax).1 = beVal 0 x2.bs := c2
  have hmf : l.map fileOf = l.map rfileOf := List.map_congr_left fun x hx => (file_same (hfl x hx).1 (hfl x hx).2).2.1
  have hmo : manOf (Oct.mk 128 [] (x0 :: x1 :: x2 :: l)) = ⟨(beVal 0 x0.bs : Nat), (beVal 0 x1.bs : Nat), (beVal 0 x2.bs : Nat), l.map fileOf⟩ := by
    unfold manOf
    rw [v0, v1, v2]; rfl
  refine ⟨?_, ?_, ?_, hl1'⟩
  · rw [hmo]
    show _ = Oct.mk 128 [] ([numO 1 (beVal 0 x0.bs), numO 2 (beVal 0 x1.bs), numO 3 (beVal 0 x2.bs)] ++ (l.map fileOf).map fileO)
    rw [← a1, ← b1, ← c1]
    have : (l.map fileOf).map fileO = l := by
      rw [List.map_map]
      conv => rhs; rw [← List.map_id l]
      exact List.map_congr_left fun x hx => ((file_same (hfl x hx).1 (hfl x hx).2).1).symm
    rw [this]; rfl
  · rw [hmo]
    have t1 : timeR (numR x1 2) = ((beVal 0 x1.bs : Nat) : Int) := by rw [hnum x1 2 _ b1 b4]; exact if_neg (by omega)
    have t2 : timeR (numR x2 3) = ((beVal 0 x2.bs : Nat) : Int) := by rw [hnum x2 3 _ c1 c4]; exact if_neg (by omega)
    show _ = Man.mk (numR x0 1 : Nat) (timeR (numR x1 2)) (timeR (numR x2 3)) (l.map rfileOf)
    rw [hnum x0 1 _ a1 a4, t1, t2, hmf]
  · rw [List.all_eq_true]
    exact fun x hx => (file_same (hfl x hx).1 (hfl x hx).2).2.2

theorem decP_sound {b : List UInt8} (h : (decP b).2 = 0) : (decP b).1.enc = b := by
  unfold decP at h ⊢
  split at h
  · cases h
  · rename_i h0
    rw [if_neg h0]
    split at h
    · rename_i o hp
      split at h
      · rename_i hc
        have := parse_sound 12 b o [] hp
        rw [List.append_nil] at this
        simp only [hp, hc, if_true]
        exact this.symm
      · cases h
    · cases h

theorem fileO_err0 {f : File} (h : f.name.length ≤ 40) : fileErr0 (fileO f) ∧ seqOk (fileO f) 129 2 2 = true := by
  have h2 : f.hs.length = 32 := by simp [File.hs]
  have r0 : rs (fileO f) 0 1 40 = (f.name, 0) := by
    show readStr 1 f.name (Oct.cellsL []) 1 40 = _
    unfold readStr
    rw [if_pos ⟨by decide, by rw [cellsL_map]; rfl, by omega⟩]
  have r1 : rs (fileO f) 1 2 32 = (f.hs, 0) := by
    show readStr 2 f.hs (Oct.cellsL []) 2 32 = _
    unfold readStr
    rw [if_pos ⟨by decide, by rw [cellsL_map]; rfl, by omega⟩]
  refine ⟨⟨by rw [r0], by rw [r1], by rw [r1]; show ¬ f.hs.length < 32; omega⟩, rfl⟩

theorem num_ok {t : UInt8} {x most : Nat} (hx : x < 18446744073709551616) (hm : x ≤ most) : (readNum (numO t x) t most).2 = 0 := by
  unfold readNum
  have hbs : (numO t x).bs = be x := rfl
  have hb := be_val hx
  rw [hbs, hb, if_pos ⟨rfl, rfl, be_len8 (by simpa using hx), be_head x, hm⟩]

/-- Both decodings agree. -/
theorem dec_same (b : List UInt8) : decMan b = refDecM b := by
  by_cases hA : (decP b).2 = 0 ∧ seqOk (decP b).1 128 3 203 = true ∧ ((decP b).1.items.drop 3).all (fun o => seqOk o 129 2 2) = true ∧ orI (errAt (err3 (decP b).1) ((decP b).1.items.drop 3)) (check (manOf (decP b).1)) = 0
  · rw [decMan, if_pos hA]
    obtain ⟨h1, h2, h3, h4⟩ := hA
    rw [orI_zero, errAt_zero] at h4
    rw [List.all_eq_true] at h3
    obtain ⟨⟨e3, ef⟩, hc⟩ := h4
    obtain ⟨m1, m2, m3, m4⟩ := man_same h2 e3 (fun x hx => ⟨h3 x hx, ef x hx⟩)
    rw [refDecM, ← m2, if_pos]
    refine ⟨h1, m4, m3, hc, ?_⟩
    rw [← m1]
    exact decP_sound h1
  · rw [decMan, if_neg hA]
    symm
    rw [refDecM, if_neg]
    rintro ⟨h1, h2, h3, h4, h5⟩
    apply hA
    obtain ⟨m, hm⟩ : ∃ m, m = rdMan (decP b).1 := ⟨_, rfl⟩
    rw [← hm] at h4 h5
    have hv : m.v.toNat < 18446744073709551616 := by
      rw [hm]
      have := numR_lt ((decP b).1.items.getD 0 zeroOct) 1
      show ((numR ((decP b).1.items.getD 0 zeroOct) 1 : Nat) : Int).toNat < _
      omega
    obtain ⟨g1, g2, g3, g4, g5, g6⟩ := check_good h4
    have hd := decP_enc h4 hv
    rw [h5] at hd
    have ho : (decP b).1 = manO m := by rw [hd]
    have hit : (manO m).items.drop 3 = m.fs.map fileO := rfl
    have hs : seqOk (manO m) 128 3 203 = true := by
      have hl : (manO m).items.length = 3 + m.fs.length := by
        show (manHead m ++ m.fs.map fileO).length = _
        rw [List.length_append, List.length_map]; rfl
      simp only [seqOk, Bool.and_eq_true, beq_iff_eq, decide_eq_true_eq]
      exact ⟨⟨⟨rfl, rfl⟩, by omega⟩, by omega⟩
    have hfl : ∀ x ∈ (manO m).items.drop 3, seqOk x 129 2 2 = true ∧ fileErr0 x := by
      rw [hit]
      intro x hx
      obtain ⟨f, hf, rfl⟩ := List.mem_map.1 hx
      exact ⟨(fileO_err0 (g6 f hf)).2, (fileO_err0 (g6 f hf)).1⟩
    have he3 : err3 (manO m) = 0 := by
      rw [err3_zero]
      exact ⟨num_ok (t := 1) hv (by unfold big; omega), num_ok (t := 2) (x := m.a.toNat) (by omega) (by unfold tmax; omega), num_ok (t := 3) (x := m.b.toNat) (by omega) (by unfold tmax; omega)⟩
    obtain ⟨m1, m2, m3, m4⟩ := man_same hs he3 hfl
    have hmm : manOf (manO m) = m := by rw [m2, ← ho, ← hm]
    rw [ho]
    refine ⟨h1, hs, ?_, ?_⟩
    · rw [List.all_eq_true]
      exact fun x hx => (hfl x hx).1
    · rw [orI_zero, errAt_zero, hmm]
      exact ⟨⟨he3, fun x hx => (hfl x hx).2⟩, h4⟩
end Go.Gp.Try
