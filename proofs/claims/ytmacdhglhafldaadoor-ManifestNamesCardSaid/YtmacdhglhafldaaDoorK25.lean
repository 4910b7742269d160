/- Part of a proof: GdM3, GdS1, GdS2, GdS3 -/
import Derived.Test.YtmacdhglhafldaaDoorK16
import Derived.Test.YtmacdhglhafldaaDoorK24

/- The manifest: Decode. -/
namespace Go.Gp.Tryd
open Go.Proofs
set_option linter.unusedVariables false
set_option linter.unusedSimpArgs false
set_option maxHeartbeats 4000000
set_option maxRecDepth 100000

/-- A string among a value's items. -/
def rs (o : Oct) (k : Nat) (t : UInt8) (n : Int) : List UInt8 × Int := readStr (o.items.getD k zeroOct).tag (o.items.getD k zeroOct).bs (Oct.cellsL (o.items.getD k zeroOct).items) t n
def fileOf (o : Oct) : File := ⟨(rs o 0 1 40).1, fun i => (rs o 1 2 32).1.getD i 0⟩
def stepE (e : Int) (o : Oct) : Int := orI (orI e (orI (rs o 0 1 40).2 (rs o 1 2 32).2)) (if (rs o 1 2 32).1.length < 32 then 12 else 0)
def errAt (e : Int) (os : List Oct) : Int := os.foldl stepE e
def big : Nat := 18446744073709551615
def tmax : Nat := 1099511627776
def numAt (o : Oct) (i most : Nat) : Nat × Nat := readNum (o.items.getD i zeroOct) (UInt8.ofNat (i + 1)) most
def err3 (o : Oct) : Int := orI (orI (orI 0 ((numAt o 0 big).2 : Nat)) ((numAt o 1 tmax).2 : Nat)) ((numAt o 2 tmax).2 : Nat)
def manOf (o : Oct) : Man := ⟨((numAt o 0 big).1 : Nat), ((numAt o 1 tmax).1 : Nat), ((numAt o 2 tmax).1 : Nat), (o.items.drop 3).map fileOf⟩
def zeroMan : Man := ⟨0, 0, 0, []⟩
def decMan (b : List UInt8) : Option Man :=
  if (decP b).2 = 0 ∧ seqOk (decP b).1 128 3 203 = true ∧ ((decP b).1.items.drop 3).all (fun o => seqOk o 129 2 2) = true ∧ orI (errAt (err3 (decP b).1) ((decP b).1.items.drop 3)) (check (manOf (decP b).1)) = 0
  then some (manOf (decP b).1) else none

theorem readNum_le (o : Oct) (t : UInt8) (most : Nat) : (readNum o t most).1 ≤ most := by
  unfold readNum
  split
  · rename_i h; exact h.2.2.2.2
  · exact Nat.zero_le _

theorem readStr_len (tag : UInt8) (bs : List UInt8) (items : List (List AV)) (t : UInt8) (n : Nat) : (readStr tag bs items t n).1.length ≤ n := by
  unfold readStr
  split
  · rename_i h; have := h.2.2; show bs.length ≤ n; omega
  · exact Nat.zero_le _

/-- Bytes laid into an array of noughts. -/
theorem hash_put (nm s : List UInt8) (h : s.length ≤ 32) : putA (.str nm :: List.replicate 32 (.int .u8 0)) 1 ((s.take (min s.length 32)).map u8) = (File.mk nm fun i => s.getD i 0).row := by
  have hl : (s.take (min s.length 32)).length = s.length := by rw [List.length_take]; omega
  have ht : s.take (min s.length 32) = s := List.take_of_length_le (by omega)
  rw [ht]
  apply List.ext_getElem?
  intro k
  rw [putA_get _ _ _ (by simp; omega), List.length_map]
  by_cases hk : 1 ≤ k ∧ k < 1 + s.length
  · rw [if_pos hk]
    obtain ⟨j, rfl⟩ : ∃ j, k = j + 1 := ⟨k - 1, by omega⟩
    have hj : j < s.length := by omega
    simp only [Nat.add_sub_cancel, File.row, List.getElem?_cons_succ, List.getElem?_map, List.getElem?_range (show j < 32 by omega), List.getElem?_eq_getElem hj, Option.map_some, List.getD_eq_getElem?_getD, Option.getD_some]
  · rw [if_neg hk]
    cases k with
    | zero => rfl
    | succ j =>
      have hj : s.length ≤ j := by omega
      simp only [File.row, List.getElem?_cons_succ, List.getElem?_map, List.getElem?_replicate]
      by_cases h2 : j < 32
      · rw [List.getElem?_range h2, if_pos h2]
        simp [List.getD_eq_getElem?_getD, List.getElem?_eq_none hj]
      · rw [if_neg h2, List.getElem?_eq_none (by simp; omega)]; rfl

theorem zeroMan_sub : Sub (.agg [.int .u64 0, .int .i64 0, .int .i64 0, .sl .full 0 []]) (zeroMan.av .no) := Sub.agg (vs := [.int .u64 0, .int .i64 0, .int .i64 0, .sl .no 33 []]) ⟨Sub.refl _, Sub.refl _, Sub.refl _, Sub.empty, trivial⟩

theorem man_bd (n : Nat) (m : Man) (e : Int) : Bd n (.tup [m.av .no, .int .i64 e]) := .tup fun x hx => by
  simp only [List.mem_cons, List.not_mem_nil, or_false] at hx
  rcases hx with rfl | rfl
  · refine .agg fun y hy => ?_
    simp only [List.mem_cons, List.not_mem_nil, or_false] at hy
    rcases hy with rfl | rfl | rfl | rfl
    · exact .int
    · exact .int
    · exact .int
    · exact rows_bd n m.fs
  · exact .int

def decR (b : List UInt8) : AV := match decMan b with
  | some m => .tup [m.av .no, .int .i64 0]
  | none => .tup [zeroMan.av .no, .int .i64 12]

theorem decP_size (b : List UInt8) : (decP b).1.size ≤ b.length + 100 := by
  have h0 : zeroOct.size ≤ 100 := by
    have := wide_le 0 (by decide)
    rw [zeroOct, leaf_size]; simp; omega
  unfold decP
  split
  · exact Nat.le_trans h0 (by omega)
  · split
    · rename_i o h
      have := parse_size h
      split
      · simp only; simp at this; omega
      · exact Nat.le_trans h0 (by omega)
    · exact Nat.le_trans h0 (by omega)

theorem decP_err (b : List UInt8) : (decP b).2 ≠ 0 → (decP b).1 = zeroOct := by
  unfold decP
  split
  · intro _; rfl
  · split
    · split
      · intro h; exact absurd rfl h
      · intro _; rfl
    · intro _; rfl

theorem items_size {o : Oct} {i : Nat} (h : i < o.items.length) : o.items[i].size ≤ o.size := by
  obtain ⟨t, bs, is⟩ := o
  have := size_get (is := is) h
  rw [size_mk]
  show is[i].size ≤ _
  omega

theorem manDecode_A (b : List UInt8) (H : List AObj) (hb : b.length ≤ 100000000000) :
    CallsA E 22 [.sl .no 1 (b.map byteRow)] H (Is H (decR b)) := by
  obtain ⟨o, ho⟩ : ∃ o, o = (decP b).1 := ⟨_, rfl⟩
  obtain ⟨e0, he0⟩ : ∃ e, e = (decP b).2 := ⟨_, rfl⟩
  have hsz := decP_size b
  have hD := fun H => octDecode_A b H (by omega)
  rw [← ho, ← he0] at hD
  have hRS := fun H => ReadSeq_A o 128 3 203 H (by rw [ho]; omega)
  have hF : ∀ (L : List AObj) (a b : Int), L[3]? = some (errB a) → CallsA E 50 [.int .i64 b, .ptr H.length 3 0] (H ++ L) (fun e H' => H' = H ++ L.set 3 (errB (orI a b)) ∧ e = .ret (.tup [])) := fun L a b h => by
    have := fail_A a b H.length 3 (H ++ L) (app_get rfl h)
    rw [set_app] at this
    exact this
  refine .enter Tryd.func22 rfl rfl rfl 108 Tryd.ntmps22 (Nat.le_of_ble_eq_true rfl) ?_
  repeat' first
    | refine WpA.seq ?_
    | refine WpA.region ?_
    | refine WpOps.op _ rfl rfl rfl rfl rfl ?_
    | refine WpOps.alloc _ rfl rfl rfl rfl rfl rfl ?_
    | refine WpOps.store rfl rfl rfl rfl rfl rfl rfl rfl rfl rfl ?_
    | (refine WpOps.call rfl rfl rfl rfl rfl (by exact hD _) ?_; rintro _ _ ⟨rfl, rfl⟩)
    | (refine WpOps.call rfl rfl rfl rfl rfl (by exact hRS _) ?_; rintro _ _ ⟨rfl, rfl⟩)
    | (refine WpOps.call rfl rfl rfl rfl rfl (by exact hF _ _ _ rfl) ?_; rintro _ _ ⟨rfl, rfl⟩)
    | refine WpOps.nil ?_
    | refine WpA.ret ?_
    | refine WpA.skip ?_
    | refine WpA.cond _ rfl (fun h => ?_) (fun h => ?_)
  · have he : decMan b = none := by
      rw [decMan, if_neg]
      rintro ⟨h1, h2, _⟩
      rw [← he0] at h1
      rw [← ho] at h2
      rw [h1, h2] at h
      exact absurd h (by decide)
    rw [decR, he]
    exact retK.sub (.inr rfl) rfl (TrOk.refl H) (L := _) rfl rfl (Sub.tup (vs := [zeroMan.av .no, .int .i64 12]) ⟨zeroMan_sub, Sub.refl _, trivial⟩) (man_bd _ _ _) ⟨rfl, rfl⟩
  · obtain ⟨hz, hq⟩ : e0 = 0 ∧ seqOk o 128 3 203 = true := by
      cases hs : seqOk o 128 3 203 with
      | true => rw [hs] at h; simp [orI] at h; exact ⟨by omega, rfl⟩
      | false => rw [hs] at h; simp [orI] at h; split at h <;> simp_all
    clear hD hRS
    subst hz
    have hq2 := hq
    simp only [seqOk, Bool.and_eq_true, beq_iff_eq, decide_eq_true_eq] at hq2
    obtain ⟨⟨⟨hq3, hq4⟩, hq5⟩, hq6⟩ := hq2
    simp only [hq, if_true]
    have hNC : ∀ (L : List AObj) (i : Nat) (most : Nat) (a : Int), i < o.items.length → i < 255 → L[5]? = some (.cells [.sl .no 3 (Oct.cellsL o.items)]) → L[4]? = some (.cells [.func 50 [.ptr H.length 3 0]]) → L[3]? = some (errB a) →
        CallsA E 53 [.int .i64 (i : Nat), .int .u64 (most : Nat), .ptr H.length 5 0, .ptr H.length 4 0] (H ++ L) (fun e H' => H' = H ++ L.set 3 (errB (orI a ((numAt o i most).2 : Nat))) ∧ e = .ret (.int .u64 ((numAt o i most).1 : Nat))) := fun L i most a hi h255 h5 h4 h3 => by
      have := numC_A o.items i hi most h255 a H.length 5 4 3 (H ++ L) (app_get rfl h5) (app_get rfl h4) (app_get rfl h3)
      rw [set_app] at this
      have e : o.items.getD i zeroOct = o.items[i] := by rw [List.getD_eq_getElem?_getD, List.getElem?_eq_getElem hi]; rfl
      rw [numAt, e]
      exact this
    repeat' first
      | refine WpA.seq ?_
      | refine WpA.region ?_
      | refine WpOps.op _ rfl rfl rfl rfl rfl ?_
      | refine WpOps.store rfl rfl rfl rfl rfl rfl rfl rfl rfl rfl ?_
      | refine WpOps.build _ rfl rfl rfl rfl rfl ?_
      | (refine WpOps.call rfl rfl rfl rfl rfl (by exact hNC _ 0 big _ (by omega) (by decide) rfl rfl rfl) ?_; rintro _ _ ⟨rfl, rfl⟩)
      | (refine WpOps.call rfl rfl rfl rfl rfl (by exact hNC _ 1 tmax _ (by omega) (by decide) rfl rfl rfl) ?_; rintro _ _ ⟨rfl, rfl⟩)
      | (refine WpOps.call rfl rfl rfl rfl rfl (by exact hNC _ 2 tmax _ (by omega) (by decide) rfl rfl rfl) ?_; rintro _ _ ⟨rfl, rfl⟩)
      | (refine WpOps.slice 3 _ rfl rfl rfl rfl rfl rfl rfl ⟨_, _, rfl, (by decide), rfl⟩ rfl (by rw [cellsL_length]; omega) (Nat.le_refl _) ?_)
      | refine WpA.block ?_
      | refine WpOps.nil ?_
    · obtain ⟨os, hos⟩ : ∃ os, os = o.items.drop 3 := ⟨_, rfl⟩
      have hdr : ((Oct.cellsL o.items).take (Oct.cellsL o.items).length).drop 3 = Oct.cellsL os := by rw [List.take_length, cellsL_map, cellsL_map, hos, List.map_drop]
      have hol : os.length ≤ 200 := by rw [hos, List.length_drop]; omega
      have w1 : IntKind.i64.wrap ((numAt o 1 tmax).1 : Nat) = ((numAt o 1 tmax).1 : Nat) := by
        have : (numAt o 1 tmax).1 ≤ 1099511627776 := readNum_le _ _ _
        exact wrap64 (by omega) (by omega)
      have w2 : IntKind.i64.wrap ((numAt o 2 tmax).1 : Nat) = ((numAt o 2 tmax).1 : Nat) := by
        have : (numAt o 2 tmax).1 ≤ 1099511627776 := readNum_le _ _ _
        exact wrap64 (by omega) (by omega)
      have hosz : ∀ (i : Nat) (h : i < os.length), os[i].size ≤ 200000000000 := fun i h => by
        have h1 : i + 3 < o.items.length := by rw [hos, List.length_drop] at h; omega
        have h2 := items_size h1
        have h3 : os[i] = o.items[i + 3] := by subst hos; rw [List.getElem_drop]; congr 1; omega
        have h4 : o.size ≤ b.length + 100 := by rw [ho]; exact hsz
        rw [h3]
        omega
      refine WpA.adoptC (j := 1) (q := 3) 33 rfl rfl ?_
      refine WpA.loopG os.length (fun i => [(2, .ptr H.length 0 0), (4, .ptr H.length 1 0), (6, .ptr H.length 3 0), (7, .ptr H.length 4 0), (50, .sl .no 3 (Oct.cellsL os)), (51, .int .i64 (os.length : Nat)), (52, .int .i64 (i : Nat))])
        (fun i => H ++ [.cells [.int .u64 0, .int .i64 0, .int .i64 0, .sl .full 0 []], .cells [.int .u64 ((numAt o 0 big).1 : Nat), .int .i64 (IntKind.i64.wrap ((numAt o 1 tmax).1 : Nat)), .int .i64 (IntKind.i64.wrap ((numAt o 2 tmax).1 : Nat)), .sl (.row H.length 6) 33 (rows ((os.take i).map fileOf))],
          .cells o.cells, errB (errAt (err3 o) (os.take i)), .cells [.func 50 [.ptr H.length 3 0]], .cells [.sl .no 3 (Oct.cellsL o.items)], .tail (rows ((os.take i).map fileOf)).length 33])
        (fun i => (os.take i).all (fun o => seqOk o 129 2 2) = true) rfl ⟨rfl, rfl, rfl, rfl, ?_, ?_, rfl, trivial⟩ ?_ (fun _ _ => by simp) (fun i _ _ => ?_) (fun i hi _ => ?_) (fun i hi hok => ?_) (fun hok => ?_) (fun _ => ⟨rfl, rfl, rfl, rfl, rfl, rfl, rfl, trivial⟩)
      · rw [← hdr]; rfl
      · show AV.int .i64 ((((Oct.cellsL o.items).take (Oct.cellsL o.items).length).drop 3).length : Nat) = _
        rw [hdr, cellsL_length]
      · rfl
      · refine TrOk.app fun j x hj => ?_
        rcases j with _ | _ | _ | _ | _ | _ | _ | j
        · exact .inl hj
        · injection hj with hj; subst hj; exact .inr (obd_cells (by
            intro x hx
            simp only [List.mem_cons, List.not_mem_nil, or_false] at hx
            rcases hx with rfl | rfl | rfl | rfl
            · exact .int
            · exact .int
            · exact .int
            · refine .sl (fun _ _ e => by cases e; simp) fun x hx e he => ?_
              have := rows_bd (H.length + 7) ((os.take (i + 1)).map fileOf)
              cases this with
              | sl _ h => exact (h x hx e he).le (by simp)))
        · exact .inl hj
        · injection hj with hj; subst hj; exact .inr (obd_cells (by intro x hx; have := List.mem_singleton.1 hx; subst this; exact .int))
        · exact .inl hj
        · exact .inl hj
        · injection hj with hj; subst hj; exact .inr (obd_tail)
        · cases hj
      · exact ⟨.ptr (by simp), .ptr (by simp), .ptr (by simp), .ptr (by simp), .sl (fun _ _ e => by cases e) (Oct.bdL _ _), .int, .int, trivial⟩
      · have hc : (Oct.cellsL os)[((i : Nat) : Int).toNat]? = some (os[i]).cells := by rw [Int.toNat_natCast]; exact cellsL_get hi
        have hRS := fun H => ReadSeq_A os[i] 129 2 2 H (by have := hosz i hi; omega)
        have hok1 : (os.take (i + 1)).all (fun o => seqOk o 129 2 2) = seqOk os[i] 129 2 2 := by
          rw [List.take_succ_eq_append_getElem hi, List.all_append, hok]; simp
        repeat' first
          | refine WpA.seq ?_
          | refine WpA.region ?_
          | refine WpOps.op _ rfl rfl rfl rfl rfl ?_
          | refine WpOps.alloc _ rfl rfl rfl rfl rfl rfl ?_
          | refine WpOps.store rfl rfl rfl rfl rfl rfl rfl rfl rfl rfl ?_
          | refine WpOps.build _ rfl rfl rfl rfl rfl ?_
          | (refine WpOps.call rfl rfl rfl rfl rfl (by exact hRS _) ?_; rintro _ _ ⟨rfl, rfl⟩)
          | refine WpOps.elem (os[i]).cells rfl rfl rfl rfl rfl rfl rfl rfl rfl (Int.natCast_nonneg i) hc ?_
          | refine WpA.block ?_
          | refine WpA.exit ?_
          | refine WpOps.nil ?_
          | refine WpA.ret ?_
          | refine WpA.skip ?_
          | refine WpA.cond _ rfl (fun h => ?_) (fun h => ?_)
          | refine WpA.draw (by kernel_rfl) ?_
          | refine LexA.op _ rfl rfl rfl rfl rfl ?_
        · have hs : seqOk os[i] 129 2 2 = false := by
            cases hs : seqOk os[i] 129 2 2 with
            | false => rfl
            | true => rw [hs] at h; exact absurd h (by decide)
          have he : decMan b = none := by
            rw [decMan, if_neg]
            rintro ⟨_, _, h3, _⟩
            rw [← ho, ← hos, List.all_eq_true] at h3
            rw [h3 _ (List.getElem_mem hi)] at hs
            cases hs
          rw [decR, he]
          exact retK.sub (.inr rfl) rfl (TrOk.refl H) (L := _) rfl rfl (Sub.tup (vs := [zeroMan.av .no, .int .i64 12]) ⟨zeroMan_sub, Sub.refl _, trivial⟩) (man_bd _ _ _) ⟨rfl, rfl⟩
        · have hs : seqOk os[i] 129 2 2 = true := by
            cases hs : seqOk os[i] 129 2 2 with
            | true => rfl
            | false => rw [hs] at h; exact absurd h (by decide)
          simp only [hs, if_true]
          have hl2 : os[i].items.length = 2 := by
            simp only [seqOk, Bool.and_eq_true, beq_iff_eq, decide_eq_true_eq] at hs
            omega
          obtain ⟨x0, x1, hx⟩ : ∃ x0 x1, os[i].items = [x0, x1] := by
            match os[i].items, hl2 with
            | [x0, x1], _ => exact ⟨x0, x1, rfl⟩
          have hR0 : ∀ H, CallsA E 55 [.agg x0.cells, .int .u8 1, .int .i64 40] H (Is H (.tup [.str (rs os[i] 0 1 40).1, .int .i64 (rs os[i] 0 1 40).2])) := fun H => by
            have : rs os[i] 0 1 40 = readStr x0.tag x0.bs (Oct.cellsL x0.items) 1 40 := by rw [rs, hx]; rfl
            rw [this]; exact ReadStr_A x0.tag x0.bs (Oct.cellsL x0.items) 1 40 H
          have hR1 : ∀ H, CallsA E 55 [.agg x1.cells, .int .u8 2, .int .i64 32] H (Is H (.tup [.str (rs os[i] 1 2 32).1, .int .i64 (rs os[i] 1 2 32).2])) := fun H => by
            have : rs os[i] 1 2 32 = readStr x1.tag x1.bs (Oct.cellsL x1.items) 2 32 := by rw [rs, hx]; rfl
            rw [this]; exact ReadStr_A x1.tag x1.bs (Oct.cellsL x1.items) 2 32 H
          have hn : (rs os[i] 1 2 32).1.length ≤ 32 := readStr_len _ _ _ _ 32
          have hc0 : (Oct.cellsL os[i].items)[(0 : Int).toNat]? = some x0.cells := by rw [hx, cellsL_map]; rfl
          have hc1 : (Oct.cellsL os[i].items)[(1 : Int).toNat]? = some x1.cells := by rw [hx, cellsL_map]; rfl
          have hp := hash_put (rs os[i] 0 1 40).1 (rs os[i] 1 2 32).1 hn
          repeat' first
            | refine WpA.drawI [] [1, 0, 0, 0, 0, 2] (by kernel_rfl) (by kernel_rfl) ?_
            | refine WpA.seq ?_
            | refine WpA.region ?_
            | refine WpOps.op _ rfl rfl rfl rfl rfl ?_
            | refine WpOps.alloc _ rfl rfl rfl rfl rfl rfl ?_
            | refine WpOps.store rfl rfl rfl rfl rfl rfl rfl rfl rfl rfl ?_
            | refine WpOps.build _ rfl rfl rfl rfl rfl ?_
            | (refine WpOps.call rfl rfl rfl rfl rfl (by exact hR0 _) ?_; rintro _ _ ⟨rfl, rfl⟩)
            | (refine WpOps.call rfl rfl rfl rfl rfl (by exact hR1 _) ?_; rintro _ _ ⟨rfl, rfl⟩)
            | (refine WpOps.elem x0.cells rfl rfl rfl rfl rfl rfl rfl rfl rfl (by decide) hc0 ?_)
            | (refine WpOps.elem x1.cells rfl rfl rfl rfl rfl rfl rfl rfl rfl (by decide) hc1 ?_)
            | (refine WpOps.call rfl rfl rfl rfl rfl (by exact hF _ _ _ rfl) ?_; rintro _ _ ⟨rfl, rfl⟩)
            | (refine LexH.call2 rfl rfl rfl rfl rfl rfl (by exact hF _ _ _ rfl) ?_)
            | (refine WpOps.p1 rfl rfl rfl (.sliceArr rfl rfl rfl) ?_)
            | (refine WpOps.copyS rfl rfl rfl rfl rfl rfl rfl rfl rfl rfl (by exact hp) ?_)
            | (refine WpOps.buildSlice _ rfl rfl rfl rfl rfl rfl rfl rfl rfl rfl rfl ?_)
            | refine WpOps.nil ?_
            | refine WpA.skip ?_
            | refine WpA.cond _ rfl (fun h => ?_) (fun h => ?_)
            | refine LexH.op0 _ rfl rfl rfl rfl rfl (fun _ => rfl) ?_
            | refine LexH.op1 _ rfl rfl rfl rfl rfl rfl ?_
            | refine LexH.buildSlice _ rfl rfl rfl rfl rfl rfl rfl rfl rfl rfl rfl rfl ?_
            | refine LexH.call0 rfl rfl rfl rfl rfl rfl (fun _ => by exact Or_A _ _ _) ?_
            | refine LexH.nil ?_
          all_goals
            have hm : rows ((os.take i).map fileOf) ++ [(File.mk (rs os[i] 0 1 40).1 fun k => (rs os[i] 1 2 32).1.getD k 0).row] = rows ((os.take (i + 1)).map fileOf) := by
              rw [List.take_succ_eq_append_getElem hi, rows, rows, List.map_append, List.map_append]; rfl
            have hst : errAt (err3 o) (os.take (i + 1)) = stepE (errAt (err3 o) (os.take i)) os[i] := by
              rw [List.take_succ_eq_append_getElem hi, errAt, errAt, List.foldl_append]; rfl
            refine WpOps.appR rfl rfl rfl rfl rfl rfl rfl (fun k h => by cases h) rfl rfl rfl rfl rfl rfl ?_ ?_ ?_
          · intro y hy a ha
            have hy' := List.mem_singleton.1 hy
            subst hy'
            revert a
            show ∀ a ∈ File.row _, a.one = true
            intro a ha
            rcases List.mem_cons.1 ha with rfl | ha
            · rfl
            · obtain ⟨k, _, rfl⟩ := List.mem_map.1 ha
              rfl
          · show ((rows ((os.take i).map fileOf)).length + 1) * 48 ≤ _
            rw [rows_length, List.length_map, List.length_take]; omega
          · repeat' first
              | refine WpA.region ?_
              | refine WpOps.op _ rfl rfl rfl rfl rfl ?_
              | refine WpOps.store rfl rfl rfl rfl rfl rfl rfl rfl rfl rfl ?_
              | refine WpOps.nil ?_
            have e12 : stepE (errAt (err3 o) (os.take i)) os[i] = orI (orI (errAt (err3 o) (os.take i)) (orI (rs os[i] 0 1 40).2 (rs os[i] 1 2 32).2)) 12 := by
              rw [stepE, if_pos]
              have h' := of_decide_eq_true h
              omega
            refine ⟨by rw [hok1]; exact hs, ⟨rfl, rfl, rfl, rfl, rfl, rfl, congrArg (AV.int .i64) (wrap64 (by omega) (by omega)), trivial⟩, [.cells os[i].cells, .cells (File.mk (rs os[i] 0 1 40).1 fun k => (rs os[i] 1 2 32).1.getD k 0).row], ?_⟩
            rw [hst, e12, ← hm]
            exact grow rfl
          · intro y hy a ha
            have hy' := List.mem_singleton.1 hy
            subst hy'
            revert a
            show ∀ a ∈ File.row _, a.one = true
            intro a ha
            rcases List.mem_cons.1 ha with rfl | ha
            · rfl
            · obtain ⟨k, _, rfl⟩ := List.mem_map.1 ha
              rfl
          · show ((rows ((os.take i).map fileOf)).length + 1) * 48 ≤ _
            rw [rows_length, List.length_map, List.length_take]; omega
          · repeat' first
              | refine WpA.region ?_
              | refine WpOps.op _ rfl rfl rfl rfl rfl ?_
              | refine WpOps.store rfl rfl rfl rfl rfl rfl rfl rfl rfl rfl ?_
              | refine WpOps.nil ?_
            have e12 : stepE (errAt (err3 o) (os.take i)) os[i] = orI (errAt (err3 o) (os.take i)) (orI (rs os[i] 0 1 40).2 (rs os[i] 1 2 32).2) := by
              have h' := of_decide_eq_false h
              rw [stepE, if_neg (by omega), orI]
              split
              · rename_i h0; exact h0.symm
              · rfl
            refine ⟨by rw [hok1]; exact hs, ⟨rfl, rfl, rfl, rfl, rfl, rfl, congrArg (AV.int .i64) (wrap64 (by omega) (by omega)), trivial⟩, [.cells os[i].cells, .cells (File.mk (rs os[i] 0 1 40).1 fun k => (rs os[i] 1 2 32).1.getD k 0).row], ?_⟩
            rw [hst, e12, ← hm]
            exact grow rfl
        · simp at h
          omega
      · have htk : os.take os.length = os := List.take_length
        have hCk : ∀ (tg : Tag) (fs : List File) (H), fs.length ≤ 1000 → CallsA E 23 [.agg [.int .u64 ((numAt o 0 big).1 : Nat), .int .i64 (IntKind.i64.wrap ((numAt o 1 tmax).1 : Nat)), .int .i64 (IntKind.i64.wrap ((numAt o 2 tmax).1 : Nat)), .sl tg 33 (rows fs)]] H (Is H (.int .i64 (check ⟨((numAt o 0 big).1 : Nat), ((numAt o 1 tmax).1 : Nat), ((numAt o 2 tmax).1 : Nat), fs⟩))) := fun tg fs H hl => by
          rw [w1, w2]
          have := Check_A ⟨((numAt o 0 big).1 : Nat), ((numAt o 1 tmax).1 : Nat), ((numAt o 2 tmax).1 : Nat), fs⟩ H (by show fs.length ≤ _; omega)
          exact CallsA.subL (vs := [Man.av ⟨((numAt o 0 big).1 : Nat), ((numAt o 1 tmax).1 : Nat), ((numAt o 2 tmax).1 : Nat), fs⟩ .no]) ⟨Sub.agg (vs := [.int .u64 ((numAt o 0 big).1 : Nat), .int .i64 ((numAt o 1 tmax).1 : Nat), .int .i64 ((numAt o 2 tmax).1 : Nat), .sl .no 33 (rows fs)]) ⟨Sub.refl _, Sub.refl _, Sub.refl _, Sub.untag, trivial⟩, trivial⟩ this
        have hm : manOf o = ⟨((numAt o 0 big).1 : Nat), ((numAt o 1 tmax).1 : Nat), ((numAt o 2 tmax).1 : Nat), (os.take os.length).map fileOf⟩ := by rw [manOf, ← hos, htk]
        have hlf : ((os.take os.length).map fileOf).length ≤ 1000 := by rw [List.length_map, htk]; omega
        have hdm : decMan b = if orI (errAt (err3 o) (os.take os.length)) (check (manOf o)) = 0 then some (manOf o) else none := by
          rw [decMan, ← ho, ← he0, ← hos, htk]
          rw [htk] at hok
          by_cases hc : orI (errAt (err3 o) os) (check (manOf o)) = 0
          · rw [if_pos hc, if_pos ⟨rfl, hq, hok, hc⟩]
          · rw [if_neg hc, if_neg (fun h => hc h.2.2.2)]
        repeat' first
          | refine WpA.drawI [H.length + 1] [1, 4, 0, 3] (by kernel_rfl) (by kernel_rfl) ?_
          | refine WpA.seq ?_
          | refine WpA.region ?_
          | refine WpOps.op _ rfl rfl rfl rfl rfl ?_
          | refine WpOps.store rfl rfl rfl rfl rfl rfl rfl rfl rfl rfl ?_
          | refine WpOps.build _ rfl rfl rfl rfl rfl ?_
          | (refine LexH.call3 rfl rfl rfl rfl rfl rfl (by exact hF _ _ _ rfl) (by exact Like.one fun _ h => h) ?_)
          | refine WpA.block ?_
          | refine WpA.exit ?_
          | refine WpOps.nil ?_
          | refine WpA.ret ?_
          | refine WpA.skip ?_
          | refine WpA.cond _ rfl (fun h => ?_) (fun h => ?_)
          | refine LexH.op1 _ rfl rfl rfl rfl rfl rfl ?_
          | refine LexH.load4 _ rfl rfl rfl rfl rfl rfl (by simp) rfl rfl rfl rfl ?_
          | refine LexH.call0 rfl rfl rfl rfl rfl rfl (fun _ => by exact hCk _ _ _ hlf) ?_
          | refine LexH.nil ?_
        · simp at h
        · have hc : ¬ orI (errAt (err3 o) (os.take os.length)) (check (manOf o)) = 0 := by rw [hm]; simpa using h
          rw [decR, hdm, if_neg hc]
          exact retK.sub (.inr rfl) rfl (TrOk.refl H) (L := _) rfl rfl (Sub.tup (vs := [zeroMan.av .no, .int .i64 12]) ⟨zeroMan_sub, Sub.refl _, trivial⟩) (man_bd _ _ _) ⟨rfl, rfl⟩
        · have hc : orI (errAt (err3 o) (os.take os.length)) (check (manOf o)) = 0 := by rw [hm]; simpa using h
          rw [decR, hdm, if_pos hc]
          refine retK.sub (.inr rfl) rfl (TrOk.refl H) (L := _) rfl rfl (Sub.tup (vs := [(manOf o).av .no, .int .i64 0]) ⟨?_, Sub.refl _, trivial⟩) (man_bd _ _ _) ⟨rfl, rfl⟩
          rw [hm]
          show Sub (.agg [.int .u64 ((numAt o 0 big).1 : Nat), .int .i64 (IntKind.i64.wrap ((numAt o 1 tmax).1 : Nat)), .int .i64 (IntKind.i64.wrap ((numAt o 2 tmax).1 : Nat)), .sl (.row H.length 6) 33 (rows ((os.take os.length).map fileOf))]) _
          rw [w1, w2]
          exact Sub.agg (vs := [.int .u64 ((numAt o 0 big).1 : Nat), .int .i64 ((numAt o 1 tmax).1 : Nat), .int .i64 ((numAt o 2 tmax).1 : Nat), .sl .no 33 (rows ((os.take os.length).map fileOf))]) ⟨Sub.refl _, Sub.refl _, Sub.refl _, Sub.untag, trivial⟩
end Go.Gp.Tryd

/- Digests: words of a block, turns. -/
namespace Go.Gp.Tryd
open Go.Proofs
set_option linter.unusedVariables false
set_option linter.unusedSimpArgs false
set_option maxHeartbeats 4000000
set_option maxRecDepth 100000

def turn (x : UInt32) (k : Nat) : UInt32 := shl32 x (32 - k) ||| shr32 x k

theorem rot_A (x : UInt32) (k : Nat) (h0 : 0 < k) (h1 : k < 32) (H : List AObj) : CallsA E 110 [u32 x, .int .i64 (-(k : Int))] H (Is H (u32 (turn x k))) := by
  have hs : IntKind.u64.wrap (((BitVec.ofInt IntKind.u64.bits (IntKind.u64.wrap (-(k : Int))) &&& BitVec.ofInt IntKind.u64.bits 31).toNat : Nat) : Int) = ((32 - k : Nat) : Int) := by
    have : ∀ k : Fin 32, 0 < k.val → IntKind.u64.wrap (((BitVec.ofInt IntKind.u64.bits (IntKind.u64.wrap (-(k.val : Int))) &&& BitVec.ofInt IntKind.u64.bits 31).toNat : Nat) : Int) = ((32 - k.val : Nat) : Int) := by decide
    exact this ⟨k, h1⟩ h0
  have hs2 : IntKind.u64.wrap (32 - ((32 - k : Nat) : Int)) = (k : Int) := by rw [wrapu64 (by omega) (by omega)]; omega
  refine .enter Tryd.func110 rfl rfl rfl 17 Tryd.ntmps110 (Nat.le_of_ble_eq_true rfl) ?_
  repeat' first
    | (refine WpOps.p1 rfl rfl rfl (.shlN (32 - k) rfl rfl rfl (by exact hs)) ?_)
    | (refine WpOps.p1 rfl rfl rfl (.shrN k rfl rfl rfl (by rw [hs]; exact hs2)) ?_)
    | refine WpA.seq ?_
    | refine WpA.region ?_
    | refine WpOps.op _ rfl rfl rfl rfl rfl ?_
    | refine WpOps.nil ?_
    | refine WpA.ret ?_
  refine retK.ok rfl rfl (congrArg (AV.int .u32) ?_) .int
  rw [w32_shl x (32 - k) (by omega), w32_shr x k (by omega), w32_or]
  rfl

theorem turn_A (x : UInt32) (k : Nat) (h0 : 0 < k) (h1 : k < 32) (H : List AObj) : CallsA E 97 [u32 x, .int .i64 (k : Nat)] H (Is H (u32 (turn x k))) := by
  have hR := fun H => rot_A x k h0 h1 H
  have hw : IntKind.i64.wrap (0 - (k : Int)) = -(k : Int) := by rw [wrap64 (by omega) (by omega)]; omega
  have hR' : ∀ H, CallsA E 110 [u32 x, .int .i64 (IntKind.i64.wrap (0 - (k : Int)))] H (Is H (u32 (turn x k))) := fun H => by rw [hw]; exact hR H
  refine .enter Tryd.func97 rfl rfl rfl 9 Tryd.ntmps97 (Nat.le_of_ble_eq_true rfl) ?_
  repeat' first
    | refine WpA.seq ?_
    | refine WpA.region ?_
    | refine WpOps.op _ rfl rfl rfl rfl rfl ?_
    | (refine WpOps.call rfl rfl rfl rfl rfl (by exact hR' _) ?_; rintro _ _ ⟨rfl, rfl⟩)
    | refine WpOps.nil ?_
    | refine WpA.ret ?_
  exact retK.ok rfl rfl rfl .int

abbrev bytesB (bs : List UInt8) : AObj := .cells (bs.map u8)
def byteAt (bs : List UInt8) (k : Nat) : UInt8 := bs.getD k 0
theorem byteAt_get {bs : List UInt8} {k : Nat} (h : k < bs.length) : (bs.map u8)[k]? = some (u8 (byteAt bs k)) := by
  rw [List.getElem?_map, List.getElem?_eq_getElem h, byteAt, List.getD_eq_getElem?_getD, List.getElem?_eq_getElem h]; rfl
def wordOf (bs : List UInt8) (i : Nat) : UInt32 :=
  shl32 (byteAt bs (4 * i)).toUInt32 24 ||| shl32 (byteAt bs (4 * i + 1)).toUInt32 16 ||| shl32 (byteAt bs (4 * i + 2)).toUInt32 8 ||| (byteAt bs (4 * i + 3)).toUInt32

theorem word_A (bs : List UInt8) (hb : bs.length = 64) (m j i : Nat) (hi : i < 16) (H : List AObj) (hH : H[m + j]? = some (bytesB bs)) : CallsA E 109 [.ptr m j 0, .int .i64 (i : Nat)] H (Is H (u32 (wordOf bs i))) := by
  have e0 : IntKind.i64.wrap (4 * (i : Int)) = ((4 * i : Nat) : Int) := by rw [wrap64 (by omega) (by omega)]; omega
  have e1 : ∀ k : Nat, k < 4 → IntKind.i64.wrap (IntKind.i64.wrap (4 * (i : Int)) + (k : Int)) = ((4 * i + k : Nat) : Int) := fun k hk => by rw [e0, wrap64 (by omega) (by omega)]; omega
  refine .enter Tryd.func109 rfl rfl rfl 42 Tryd.ntmps109 (Nat.le_of_ble_eq_true rfl) ?_
  have hX : ∀ L, (H ++ L)[m + j]? = some (bytesB bs) := fun L => getL hH
  repeat' first
    | refine WpA.seq ?_
    | refine WpA.region ?_
    | refine WpOps.op _ rfl rfl rfl rfl rfl ?_
    | (refine LexA.p1 rfl rfl rfl (.elemP (4 * i) rfl rfl rfl rfl rfl (by exact e0) (by omega)) ?_)
    | (refine LexA.p1 rfl rfl rfl (.elemP (4 * i + 1) rfl rfl rfl rfl rfl (by exact e1 1 (by decide)) (by omega)) ?_)
    | (refine LexA.p1 rfl rfl rfl (.elemP (4 * i + 2) rfl rfl rfl rfl rfl (by exact e1 2 (by decide)) (by omega)) ?_)
    | (refine LexA.p1 rfl rfl rfl (.elemP (4 * i + 3) rfl rfl rfl rfl rfl (by exact e1 3 (by decide)) (by omega)) ?_)
    | (refine LexA.p1 rfl rfl rfl (.loadN rfl rfl (hX _) rfl rfl rfl (by exact byteAt_get (by omega))) ?_)
    | refine WpOps.nil ?_
    | refine WpA.ret ?_
    | refine WpA.draw (by kernel_rfl) ?_
    | refine LexA.op _ rfl rfl rfl rfl rfl ?_
    | refine LexA.sh _ rfl rfl rfl rfl rfl ?_
    | refine LexA.nil ?_
  refine retK.ok rfl rfl (congrArg (AV.int .u32) ?_) .int
  simp only [w32_byte, w32_shl _ 24 (by decide), w32_shl _ 16 (by decide), w32_shl _ 8 (by decide), w32_or]
  rfl
end Go.Gp.Tryd

/- Digests: the schedule of a block. -/
namespace Go.Gp.Tryd
open Go.Proofs
set_option linter.unusedVariables false
set_option linter.unusedSimpArgs false
set_option maxHeartbeats 4000000
set_option maxRecDepth 100000

def mixW (l : List UInt32) (i : Nat) : UInt32 :=
  (turn (l.getD (i - 2) 0) 17 ^^^ turn (l.getD (i - 2) 0) 19 ^^^ shr32 (l.getD (i - 2) 0) 10) + l.getD (i - 7) 0 + (turn (l.getD (i - 15) 0) 7 ^^^ turn (l.getD (i - 15) 0) 18 ^^^ shr32 (l.getD (i - 15) 0) 3) + l.getD (i - 16) 0
def schedL (bs : List UInt8) : Nat → List UInt32
  | 0 => []
  | i + 1 => schedL bs i ++ [if i < 16 then wordOf bs i else mixW (schedL bs i) i]
theorem schedL_len (bs : List UInt8) : ∀ i, (schedL bs i).length = i
  | 0 => rfl
  | i + 1 => by rw [schedL, List.length_append, schedL_len bs i]; rfl
def partC (n : Nat) (l : List UInt32) : List AV := l.map u32 ++ List.replicate (n - l.length) (u32 0)
theorem partC_len {n : Nat} {l : List UInt32} (h : l.length ≤ n) : (partC n l).length = n := by simp [partC]; omega
theorem partC_get {n : Nat} {l : List UInt32} {q : Nat} (h : q < l.length) : (partC n l)[q]? = some (u32 (l.getD q 0)) := by
  rw [partC, List.getElem?_append_left (by simpa using h), List.getElem?_map, List.getD_eq_getElem?_getD, List.getElem?_eq_getElem h]; rfl
theorem partC_set {n : Nat} {l : List UInt32} (h : l.length < n) (x : UInt32) : (partC n l).set l.length (u32 x) = partC n (l ++ [x]) := by
  have e : n - l.length = (n - (l.length + 1)) + 1 := by omega
  rw [partC, List.set_append_right _ _ (by simp), List.length_map, Nat.sub_self, e, List.replicate_succ, List.set_cons_zero, partC]
  simp
theorem partC_full {n : Nat} {l : List UInt32} (h : l.length = n) : partC n l = l.map u32 := by simp [partC, h]

theorem sched_A (bs : List UInt8) (hb : bs.length = 64) (m j : Nat) (H : List AObj) (hH : H[m + j]? = some (bytesB bs)) : CallsA E 96 [.ptr m j 0] H (Is H (.agg ((schedL bs 64).map u32))) := by
  have hlt := get_lt hH
  refine .enter Tryd.func96 rfl rfl rfl 56 Tryd.ntmps96 (Nat.le_of_ble_eq_true rfl) ?_
  repeat' first
    | refine WpA.seq ?_
    | refine WpA.region ?_
    | refine WpOps.op _ rfl rfl rfl rfl rfl ?_
    | refine WpOps.alloc _ rfl rfl rfl rfl rfl rfl ?_
    | refine WpA.block ?_
    | refine WpOps.nil ?_
  refine WpA.loopG 64 (fun i => [(0, .ptr m j 0), (2, .ptr H.length 0 0), (3, .ptr H.length 1 0), (7, .int .i64 (i : Nat))]) (fun i => H ++ [.cells (partC 64 []), .cells (partC 64 (schedL bs i))]) (fun _ => True) trivial ⟨rfl, rfl, rfl, rfl, trivial⟩ rfl (fun _ _ => by simp) (fun i hi _ => ?_) (fun i hi _ => ?_) (fun i hi _ => ?_) (fun _ => ?_) (fun _ => ⟨rfl, rfl, rfl, rfl, trivial⟩)
  · refine TrOk.app fun k o hk => ?_
    rcases k with _ | _ | k
    · exact .inl hk
    · injection hk with hk; subst hk
      refine .inr (obd_cells fun a ha => ?_)
      rw [partC, List.mem_append] at ha
      rcases ha with ha | ha
      · obtain ⟨x, _, rfl⟩ := List.mem_map.1 ha; exact .int
      · have := (List.mem_replicate.1 ha).2; subst this; exact .int
    · cases hk
  · exact ⟨.ptr (by simp; omega), .ptr (by simp), .ptr (by simp), .int, trivial⟩
  · have hl := schedL_len bs i
    have hW : i < 16 → ∀ L, CallsA E 109 [.ptr m j 0, .int .i64 (i : Nat)] (H ++ L) (Is (H ++ L) (u32 (wordOf bs i))) := fun h16 L => word_A bs hb m j i h16 _ (getL hH)
    have hg := fun (q : Nat) (hq : q < i) => partC_get (n := 64) (l := schedL bs i) (q := q) (by rw [hl]; exact hq)
    have hs := partC_set (n := 64) (l := schedL bs i) (by rw [hl]; exact hi)
    rw [hl] at hs
    have hlen : i < (partC 64 (schedL bs i)).length := by rw [partC_len (by omega)]; exact hi
    have hL1 : ∀ L, (H ++ ([AObj.cells (partC 64 []), .cells (partC 64 (schedL bs i))] ++ L))[H.length + 1]? = some (.cells (partC 64 (schedL bs i))) := fun L => by rw [List.getElem?_append_right (by omega)]; simp
    by_cases h16 : i < 16
    · repeat' first
        | refine WpA.seq ?_
        | refine WpA.region ?_
        | refine WpOps.op _ rfl rfl rfl rfl rfl ?_
        | (refine WpOps.call rfl rfl rfl rfl rfl (by exact hW h16 _) ?_; rintro _ _ ⟨rfl, rfl⟩)
        | (refine WpOps.p1 rfl rfl rfl (.elemP i rfl rfl rfl rfl rfl rfl hi) ?_)
        | (refine WpOps.u1 rfl rfl (.storeL (j := 1) rfl rfl rfl rfl rfl rfl rfl rfl hlen) ?_)
        | refine WpA.block ?_
        | refine WpA.exit ?_
        | refine WpOps.nil ?_
        | refine WpA.skip ?_
        | refine WpA.cond _ rfl (fun h => ?_) (fun h => ?_)
        | refine WpA.draw (by kernel_rfl) ?_
        | refine LexA.op _ rfl rfl rfl rfl rfl ?_
      · refine ⟨trivial, ⟨rfl, rfl, rfl, congrArg (AV.int .i64) (wrap64 (by omega) (by omega)), trivial⟩, [], ?_⟩
        rw [schedL, if_pos h16, ← hs]
        simp
      all_goals (simp at h; omega)
    · have eq : ∀ q : Nat, 16 ≤ i → q ≤ 16 → IntKind.i64.wrap ((i : Int) - (q : Nat)) = ((i - q : Nat) : Int) := fun q h hq => by rw [wrap64 (by omega) (by omega)]; omega
      have h16 : 16 ≤ i := by omega
      have T := fun (x : UInt32) (k : Nat) (h0 : 0 < k) (h1 : k < 32) H => turn_A x k h0 h1 H
      obtain ⟨y, hy⟩ : ∃ y, y = (schedL bs i).getD (i - 2) 0 := ⟨_, rfl⟩
      obtain ⟨x, hx⟩ : ∃ x, x = (schedL bs i).getD (i - 15) 0 := ⟨_, rfl⟩
      have g2 := hg (i - 2) (by omega)
      have g15 := hg (i - 15) (by omega)
      have g7 := hg (i - 7) (by omega)
      have g16 := hg (i - 16) (by omega)
      rw [← hy] at g2
      rw [← hx] at g15
      repeat' first
        | refine WpA.seq ?_
        | refine WpA.region ?_
        | refine WpOps.op _ rfl rfl rfl rfl rfl ?_
        | (refine LexH.p0 rfl rfl rfl rfl (fun _ => .elemP (i - 15) rfl rfl rfl rfl rfl (by exact eq 15 h16 (by decide)) (by omega)) ?_)
        | (refine LexH.p0 rfl rfl rfl rfl (fun _ => .elemP (i - 2) rfl rfl rfl rfl rfl (by exact eq 2 h16 (by decide)) (by omega)) ?_)
        | (refine LexH.p0 rfl rfl rfl rfl (fun _ => .elemP (i - 7) rfl rfl rfl rfl rfl (by exact eq 7 h16 (by decide)) (by omega)) ?_)
        | (refine LexH.p0 rfl rfl rfl rfl (fun _ => .elemP (i - 16) rfl rfl rfl rfl rfl (by exact eq 16 h16 (by decide)) (by omega)) ?_)
        | (refine LexH.p0 rfl rfl rfl rfl (fun _ => .elemP i rfl rfl rfl rfl rfl rfl hi) ?_)
        | (refine LexH.p1 rfl rfl rfl rfl (.loadN rfl rfl (by exact hL1 []) rfl rfl rfl (by first | exact g2 | exact g15 | exact g7 | exact g16)) ?_)
        | (refine LexH.u2 rfl rfl rfl (.storeL (j := 1) rfl rfl rfl rfl rfl rfl rfl rfl hlen) ?_)
        | refine WpA.block ?_
        | refine WpA.exit ?_
        | refine WpOps.nil ?_
        | refine WpA.skip ?_
        | refine WpA.cond _ rfl (fun h => ?_) (fun h => ?_)
        | refine WpA.drawC (by kernel_rfl) (by kernel_rfl) ?_
        | refine LexH.op0 _ rfl rfl rfl rfl rfl (fun _ => rfl) ?_
        | refine LexH.sh _ rfl rfl rfl rfl rfl rfl ?_
        | refine LexH.call rfl rfl rfl rfl rfl rfl (by exact T y 17 (by decide) (by decide) _) ?_
        | refine LexH.call rfl rfl rfl rfl rfl rfl (by exact T y 19 (by decide) (by decide) _) ?_
        | refine LexH.call rfl rfl rfl rfl rfl rfl (by exact T x 7 (by decide) (by decide) _) ?_
        | refine LexH.call rfl rfl rfl rfl rfl rfl (by exact T x 18 (by decide) (by decide) _) ?_
        | refine LexH.nil ?_
      · simp at h; omega
      · refine ⟨trivial, ⟨rfl, rfl, rfl, congrArg (AV.int .i64) (wrap64 (by omega) (by omega)), trivial⟩, [], ?_⟩
        rw [schedL, if_neg (by omega), ← hs, mixW, ← hx, ← hy]
        simp only [w32_xor, w32_shr _ 10 (by decide), w32_shr _ 3 (by decide), w32_add]
        rw [List.append_nil]
        rfl
      · simp at h; omega
  · have hf := partC_full (n := 64) (schedL_len bs 64)
    obtain ⟨ws, hws⟩ : ∃ ws : List AV, ws = (schedL bs 64).map u32 := ⟨_, rfl⟩
    have hwl : ws.length = 64 := by rw [hws, List.length_map, schedL_len]
    have h0 : (partC 64 []).length = 64 := rfl
    have hone : ∀ a ∈ ws, a.one = true := fun a ha => by rw [hws] at ha; obtain ⟨x, _, rfl⟩ := List.mem_map.1 ha; rfl
    rw [hf, ← hws]
    repeat' first
      | (refine WpOps.p1 rfl rfl rfl (.loadG rfl rfl (app_get rfl rfl) rfl rfl (by exact hwl)) ?_)
      | (refine WpOps.u1 rfl rfl (.storeGL (j := 0) rfl rfl rfl rfl (by exact hone) rfl (by exact hwl) (by exact hwl)) ?_)
      | refine WpA.seq ?_
      | refine WpA.region ?_
      | refine WpOps.op _ rfl rfl rfl rfl rfl ?_
      | refine WpA.exit ?_
      | refine WpOps.nil ?_
      | refine WpA.ret ?_
      | refine WpA.condF rfl ?_
    · exact retK.sub (.inr rfl) rfl (TrOk.refl H) (L := _) (resL_one (resA_agg rfl rfl rfl rfl (by exact hwl))) rfl (Sub.refl _) (.agg fun a ha => by rw [hws] at ha; obtain ⟨x, _, rfl⟩ := List.mem_map.1 ha; exact .int) ⟨rfl, rfl⟩
end Go.Gp.Tryd

/- Digests: a block is added to the registers. -/
namespace Go.Gp.Tryd
open Go.Proofs
set_option linter.unusedVariables false
set_option linter.unusedSimpArgs false
set_option maxHeartbeats 4000000
set_option maxRecDepth 100000

structure Reg where
  (a b c d e f g h : UInt32)
def Reg.cells (r : Reg) : List AV := [u32 r.a, u32 r.b, u32 r.c, u32 r.d, u32 r.e, u32 r.f, u32 r.g, u32 r.h]
def Reg.list (r : Reg) : List UInt32 := [r.a, r.b, r.c, r.d, r.e, r.f, r.g, r.h]
theorem Reg.cells_eq (r : Reg) : r.cells = r.list.map u32 := rfl
def t1W (r : Reg) (k w : UInt32) : UInt32 := r.h + (turn r.e 6 ^^^ turn r.e 11 ^^^ turn r.e 25) + (r.e &&& r.f ^^^ ~~~r.e &&& r.g) + k + w
def t2W (r : Reg) : UInt32 := (turn r.a 2 ^^^ turn r.a 13 ^^^ turn r.a 22) + (r.a &&& r.b ^^^ r.a &&& r.c ^^^ r.b &&& r.c)
def Reg.next (r : Reg) (k w : UInt32) : Reg := ⟨t1W r k w + t2W r, r.a, r.b, r.c, r.d + t1W r k w, r.e, r.f, r.g⟩
def kList : List UInt32 := [0x428a2f98, 0x71374491, 0xb5c0fbcf, 0xe9b5dba5, 0x3956c25b, 0x59f111f1, 0x923f82a4, 0xab1c5ed5,
  0xd807aa98, 0x12835b01, 0x243185be, 0x550c7dc3, 0x72be5d74, 0x80deb1fe, 0x9bdc06a7, 0xc19bf174,
  0xe49b69c1, 0xefbe4786, 0x0fc19dc6, 0x240ca1cc, 0x2de92c6f, 0x4a7484aa, 0x5cb0a9dc, 0x76f988da,
  0x983e5152, 0xa831c66d, 0xb00327c8, 0xbf597fc7, 0xc6e00bf3, 0xd5a79147, 0x06ca6351, 0x14292967,
  0x27b70a85, 0x2e1b2138, 0x4d2c6dfc, 0x53380d13, 0x650a7354, 0x766a0abb, 0x81c2c92e, 0x92722c85,
  0xa2bfe8a1, 0xa81a664b, 0xc24b8b70, 0xc76c51a3, 0xd192e819, 0xd6990624, 0xf40e3585, 0x106aa070,
  0x19a4c116, 0x1e376c08, 0x2748774c, 0x34b0bcb5, 0x391c0cb3, 0x4ed8aa4a, 0x5b9cca4f, 0x682e6ff3,
  0x748f82ee, 0x78a5636f, 0x84c87814, 0x8cc70208, 0x90befffa, 0xa4506ceb, 0xbef9a3f7, 0xc67178f2]
theorem g_kList : g1 = kList.map u32 := by rfl
theorem kList_len : kList.length = 64 := by decide
def rounds (ws : List UInt32) (r : Reg) : Nat → Reg
  | 0 => r
  | i + 1 => (rounds ws r i).next (kList.getD i 0) (ws.getD i 0)
def Reg.plus (r s : Reg) : Reg := ⟨r.a + s.a, r.b + s.b, r.c + s.c, r.d + s.d, r.e + s.e, r.f + s.f, r.g + s.g, r.h + s.h⟩
def addBlock (r : Reg) (bs : List UInt8) : Reg := r.plus (rounds (schedL bs 64) r 64)
def plusTo (r s : Reg) (i : Nat) : List UInt32 := ((r.plus s).list.take i) ++ r.list.drop i
theorem plusTo_len (r s : Reg) {i : Nat} (h : i ≤ 8) : (plusTo r s i).length = 8 := by simp [plusTo, Reg.list]; omega
theorem plusTo_get (r s : Reg) {i : Nat} (h : i < 8) : (plusTo r s i)[i]? = some (r.list.getD i 0) := by
  rw [plusTo, List.getElem?_append_right (by simp [Reg.list]; omega)]
  have : i - ((r.plus s).list.take i).length = 0 := by simp [Reg.list]; omega
  rw [this, List.getElem?_drop, List.getD_eq_getElem?_getD]
  have : i < r.list.length := h
  rw [Nat.add_zero, List.getElem?_eq_getElem this]; rfl
theorem plusTo_set (r s : Reg) {i : Nat} (h : i < 8) : (plusTo r s i).set i (r.list.getD i 0 + s.list.getD i 0) = plusTo r s (i + 1) := by
  rcases i with _ | _ | _ | _ | _ | _ | _ | _ | i
  all_goals first | rfl | omega
theorem one_u32 {l : List UInt32} : ∀ a ∈ l.map u32, a.one = true := fun a ha => by obtain ⟨x, _, rfl⟩ := List.mem_map.1 ha; rfl
theorem bd_u32 {n : Nat} {l : List UInt32} : ∀ a ∈ l.map u32, Bd n a := fun a ha => by obtain ⟨x, _, rfl⟩ := List.mem_map.1 ha; exact .int
theorem map_get {l : List UInt32} {i : Nat} (h : i < l.length) : (l.map u32)[i]? = some (u32 (l.getD i 0)) := by
  rw [List.getElem?_map, List.getD_eq_getElem?_getD, List.getElem?_eq_getElem h]; rfl

theorem add_A (r : Reg) (bs : List UInt8) (hb : bs.length = 64) (m p m' q : Nat) (H : List AObj) (hH : H[m + p]? = some (.cells r.cells)) (hB : H[m' + q]? = some (bytesB bs)) :
    CallsA E 81 [.ptr m p 0, .ptr m' q 0] H (fun e H' => H' = H.set (m + p) (.cells (addBlock r bs).cells) ∧ e = .ret (.tup [])) := by
  have hlt := get_lt hH
  refine .enter Tryd.func81 rfl rfl rfl 111 Tryd.ntmps81 (Nat.le_of_ble_eq_true rfl) ?_
  have hS := fun L => sched_A bs hb m' q (H ++ L) (getL hB)
  have hsl := schedL_len bs 64
  obtain ⟨ws, hws⟩ : ∃ ws, ws = schedL bs 64 := ⟨_, rfl⟩
  rw [← hws] at hS hsl
  repeat' first
    | (refine WpOps.loadOut (.agg r.cells) rfl rfl rfl rfl rfl hH rfl rfl rfl ?_)
    | refine WpA.seq ?_
    | refine WpA.region ?_
    | refine WpOps.op _ rfl rfl rfl rfl rfl ?_
    | refine WpOps.alloc _ rfl rfl rfl rfl rfl rfl ?_
    | refine WpOps.store rfl rfl rfl rfl rfl rfl rfl rfl rfl rfl ?_
    | (refine WpOps.call rfl rfl rfl rfl rfl (by exact hS _) ?_; rintro _ _ ⟨rfl, rfl⟩)
    | refine WpA.block ?_
    | refine WpOps.nil ?_
  refine WpA.loopG 64 (fun i => [(0, .ptr m p 0), (4, .ptr H.length 0 0), (16, .agg (ws.map u32)), (17, .int .i64 (i : Nat))]) (fun i => H ++ [.cells (rounds ws r i).cells]) (fun _ => True) trivial ⟨rfl, rfl, rfl, rfl, trivial⟩ rfl (fun _ _ => by simp) (fun i hi _ => ?_) (fun i hi _ => ?_) (fun i hi _ => ?_) (fun _ => ?_) (fun _ => ⟨rfl, rfl, rfl, rfl, trivial⟩)
  · refine TrOk.app fun k o hk => ?_
    rcases k with _ | k
    · injection hk with hk; subst hk; exact .inr (obd_cells (bd_u32 (l := (rounds ws r (i + 1)).list)))
    · cases hk
  · exact ⟨.ptr (by simp; omega), .ptr (by simp), .agg bd_u32, .int, trivial⟩
  · have hwi := map_get (l := ws) (i := i) (by omega)
    have hki : (g1.drop i)[0]? = some (u32 (kList.getD i 0)) := by
      rw [g_kList, List.getElem?_drop, Nat.add_zero]; exact map_get (by rw [kList_len]; exact hi)
    have hnx : rounds ws r (i + 1) = (rounds ws r i).next (kList.getD i 0) (ws.getD i 0) := rfl
    generalize rounds ws r i = R at *
    have T := fun (x : UInt32) (k : Nat) (h0 : 0 < k) (h1 : k < 32) H => turn_A x k h0 h1 H
    repeat' first
      | refine WpA.seq ?_
      | refine WpA.region ?_
      | refine WpOps.op _ rfl rfl rfl rfl rfl ?_
      | (refine WpOps.p1 rfl rfl rfl (.indexN i rfl rfl rfl rfl rfl hi rfl rfl hwi) ?_)
      | (refine LexA.elemA _ rfl rfl rfl rfl rfl rfl rfl (by decide) (by decide) rfl ?_)
      | (refine WpOps.elemA _ rfl rfl rfl rfl rfl rfl rfl (by decide) (by decide) rfl ?_)
      | (refine LexA.p1 rfl rfl rfl (.elemR i rfl rfl rfl rfl rfl rfl hi) ?_)
      | (refine LexA.p1 rfl rfl rfl (.loadR rfl rfl rfl rfl rfl hki) ?_)
      | refine WpA.block ?_
      | refine WpA.exit ?_
      | refine WpOps.nil ?_
      | refine WpA.skip ?_
      | refine WpA.cond _ rfl (fun h => ?_) (fun h => ?_)
      | refine WpA.draw (by kernel_rfl) ?_
      | refine LexA.op _ rfl rfl rfl rfl rfl ?_
      | refine LexA.call rfl rfl rfl rfl rfl (by exact T R.e 6 (by decide) (by decide) _) ?_
      | refine LexA.call rfl rfl rfl rfl rfl (by exact T R.e 11 (by decide) (by decide) _) ?_
      | refine LexA.call rfl rfl rfl rfl rfl (by exact T R.e 25 (by decide) (by decide) _) ?_
      | refine LexA.call rfl rfl rfl rfl rfl (by exact T R.a 2 (by decide) (by decide) _) ?_
      | refine LexA.call rfl rfl rfl rfl rfl (by exact T R.a 13 (by decide) (by decide) _) ?_
      | refine LexA.call rfl rfl rfl rfl rfl (by exact T R.a 22 (by decide) (by decide) _) ?_
      | refine LexA.nil ?_
    · refine WpOps.weak (T := [(0, .ptr m p 0), (4, .ptr H.length 0 0), (16, .agg (ws.map u32)), (17, .int .i64 (i : Nat)), (79, u32 (t1W R (kList.getD i 0) (ws.getD i 0) + t2W R)), (80, u32 R.a), (82, u32 R.b), (84, u32 R.c), (88, u32 (R.d + t1W R (kList.getD i 0) (ws.getD i 0))), (89, u32 R.e), (91, u32 R.f), (93, u32 R.g)]) ⟨rfl, rfl, rfl, rfl, congrArg (AV.int .u32) ?_, rfl, rfl, rfl, congrArg (AV.int .u32) ?_, rfl, rfl, rfl, trivial⟩ ?_
      · rw [t1W, t2W]
        simp only [w32_add, w32_xor, w32_and, w32_not]
      · rw [t1W]
        simp only [w32_add, w32_xor, w32_and, w32_not]
      repeat' first
        | refine WpA.region ?_
        | refine WpOps.op _ rfl rfl rfl rfl rfl ?_
        | refine WpOps.store rfl rfl rfl rfl rfl rfl rfl rfl rfl rfl ?_
        | refine WpOps.build _ rfl rfl rfl rfl rfl ?_
        | refine WpOps.nil ?_
      refine ⟨trivial, ⟨rfl, rfl, rfl, congrArg (AV.int .i64) (wrap64 (by omega) (by omega)), trivial⟩, [], ?_⟩
      rw [hnx, List.append_nil]
      rfl
    · simp at h; omega
  · repeat' first
      | refine WpA.seq ?_
      | refine WpA.region ?_
      | refine WpOps.op _ rfl rfl rfl rfl rfl ?_
      | refine WpA.block ?_
      | refine WpA.exit ?_
      | refine WpOps.nil ?_
      | refine WpA.condF rfl ?_
    generalize hS2 : rounds ws r 64 = s
    refine WpA.loopG 8 (fun i => [(0, .ptr m p 0), (4, .ptr H.length 0 0), (96, .int .i64 (i : Nat))]) (fun i => H.set (m + p) (.cells ((plusTo r s i).map u32)) ++ [.cells s.cells]) (fun _ => True) trivial ⟨rfl, rfl, rfl, trivial⟩ ?_ (fun _ _ => by simp) (fun i hi _ => TrOk.set2 fun n => obd_cells bd_u32) (fun i hi _ => ?_) (fun i hi _ => ?_) (fun _ => ?_) (fun _ => ⟨rfl, rfl, rfl, trivial⟩)
    · show _ = H.set (m + p) (.cells r.cells) ++ _
      rw [set_self hH]
    · exact ⟨.ptr (by simp; omega), .ptr (by simp), .int, trivial⟩
    · have hg := map_get (l := plusTo r s i) (i := i) (by rw [plusTo_len r s (by omega)]; exact hi)
      have hg1 : (plusTo r s i).getD i 0 = r.list.getD i 0 := by rw [List.getD_eq_getElem?_getD, plusTo_get r s hi]; rfl
      rw [hg1] at hg
      have hg2 : s.cells[i]? = some (u32 (s.list.getD i 0)) := map_get (l := s.list) hi
      obtain ⟨C, hC⟩ : ∃ C, C = (plusTo r s i).map u32 := ⟨_, rfl⟩
      have hCl : i < C.length := by rw [hC, List.length_map, plusTo_len r s (by omega)]; exact hi
      rw [← hC] at hg ⊢
      have hX0 : (H.set (m + p) (.cells C))[m + p]? = some (.cells C) := by simp [hlt]
      have hX1 : (H.set (m + p) (.cells C) ++ [AObj.cells s.cells])[m + p]? = some (.cells C) := by rw [List.getElem?_append_left (by simpa using hlt)]; simp [hlt]
      have hX2 : (H.set (m + p) (.cells C) ++ [AObj.cells s.cells])[H.length + 0]? = some (.cells s.cells) := by rw [List.getElem?_append_right (by simp)]; simp
      repeat' first
        | refine WpA.seq ?_
        | refine WpA.region ?_
        | refine WpOps.op _ rfl rfl rfl rfl rfl ?_
        | (refine LexH.p0 rfl rfl rfl rfl (fun _ => .elemP i rfl rfl rfl rfl rfl rfl hi) ?_)
        | (refine LexH.p1 rfl rfl rfl rfl (.loadN rfl rfl hX1 rfl rfl rfl hg) ?_)
        | (refine LexH.p1 rfl rfl rfl rfl (.loadN rfl rfl hX2 rfl rfl rfl hg2) ?_)
        | (refine LexH.u2 rfl rfl rfl (.storeB rfl rfl hX0 rfl rfl rfl rfl rfl hCl) ?_)
        | refine WpA.block ?_
        | refine WpA.exit ?_
        | refine WpOps.nil ?_
        | refine WpA.skip ?_
        | refine WpA.cond _ rfl (fun h => ?_) (fun h => ?_)
        | refine WpA.drawC (by kernel_rfl) (by kernel_rfl) ?_
        | refine LexH.op0 _ rfl rfl rfl rfl rfl (fun _ => rfl) ?_
        | refine LexH.nil ?_
      · refine ⟨trivial, ⟨rfl, rfl, congrArg (AV.int .i64) (wrap64 (by omega) (by omega)), trivial⟩, [], ?_⟩
        rw [List.append_nil, List.set_set, w32_add, hC, ← plusTo_set r s hi, List.map_set]
      · simp at h; omega
    · repeat' first
        | refine WpA.seq ?_
        | refine WpA.region ?_
        | refine WpOps.op _ rfl rfl rfl rfl rfl ?_
        | refine WpA.exit ?_
        | refine WpOps.nil ?_
        | refine WpA.condF rfl ?_
      refine retK.sub (.inl rfl) (by simp) (TrOk.set1 (obd_cells bd_u32)) rfl rfl (r := .tup []) (Sub.refl _) (.tup (by simp)) ⟨?_, rfl⟩
      rw [addBlock, ← hws, hS2]
      rfl
end Go.Gp.Tryd
