/- Part of a proof: GpM3, GpR9 -/
import Derived.Test.YtmacdhglhafldaaK23
import Derived.Test.YtmacdhglhafldaaK27

/- The manifest: Decode. -/
namespace Go.Gp.Try
open Go.Proofs
set_option linter.unusedVariables false
set_option linter.unusedSimpArgs false
set_option maxHeartbeats 4000000
set_option maxRecDepth 100000

/-- A string among a value's items. -/
def rs (o : Oct) (k : Nat) (t : UInt8) (n : Int) : List UInt8 × Int := readStr (o.items.getD k zeroOct).tag (o.items.getD k zeroOct).bs (Oct.cellsL (o.items.getD k zeroOct).items) t n
def fileOf (o : Oct) : File := ⟨(rs o 0 1 40).1, fun i => (rs o 1 2 32).1.getD i 0⟩
def stepE (e : Int) (o : Oct) : Int := orI (orI e (orI (rs o 0 1 40).2 (rs o 1 2 32).2)) (if (rs o 1 2 32).1.length < 32 then 12 else 0)
def errAt (e : Int) (os : List Oct) : Int := os.foldl stepE e
def big : Nat := 18446744073709551615
def tmax : Nat := 1099511627776
def numAt (o : Oct) (i most : Nat) : Nat × Nat := readNum (o.items.getD i zeroOct) (UInt8.ofNat (i + 1)) most
def err3 (o : Oct) : Int := orI (orI (orI 0 ((numAt o 0 big).2 : Nat)) ((numAt o 1 tmax).2 : Nat)) ((numAt o 2 tmax).2 : Nat)
def manOf (o : Oct) : Man := ⟨((numAt o 0 big).1 : Nat), ((numAt o 1 tmax).1 : Nat), ((numAt o 2 tmax).1 : Nat), (o.items.drop 3).map fileOf⟩
def zeroMan : Man := ⟨0, 0, 0, []⟩
def decMan (b : List UInt8) : Option Man :=
  if (decP b).2 = 0 ∧ seqOk (decP b).1 128 3 203 = true ∧ ((decP b).1.items.drop 3).all (fun o => seqOk o 129 2 2) = true ∧ orI (errAt (err3 (decP b).1) ((decP b).1.items.drop 3)) (check (manOf (decP b).1)) = 0
  then some (manOf (decP b).1) else none

theorem readNum_le (o : Oct) (t : UInt8) (most : Nat) : (readNum o t most).1 ≤ most := by
  unfold readNum
  split
  · rename_i h; exact h.2.2.2.2
  · exact Nat.zero_le _

theorem readStr_len (tag : UInt8) (bs : List UInt8) (items : List (List AV)) (t : UInt8) (n : Nat) : (readStr tag bs items t n).1.length ≤ n := by
  unfold readStr
  split
  · rename_i h; have := h.2.2; show bs.length ≤ n; omega
  · exact Nat.zero_le _

/-- Bytes laid into an array of noughts. -/
theorem hash_put (nm s : List UInt8) (h : s.length ≤ 32) : putA (.str nm :: List.replicate 32 (.int .u8 0)) 1 ((s.take (min s.length 32)).map u8) = (File.mk nm fun i => s.getD i 0).row := by
  have hl : (s.take (min s.length 32)).length = s.length := by rw [List.length_take]; omega
  have ht : s.take (min s.length 32) = s := List.take_of_length_le (by omega)
  rw [ht]
  apply List.ext_getElem?
  intro k
  rw [putA_get _ _ _ (by simp; omega), List.length_map]
  by_cases hk : 1 ≤ k ∧ k < 1 + s.length
  · rw [if_pos hk]
    obtain ⟨j, rfl⟩ : ∃ j, k = j + 1 := ⟨k - 1, by omega⟩
    have hj : j < s.length := by omega
    simp only [Nat.add_sub_cancel, File.row, List.getElem?_cons_succ, List.getElem?_map, List.getElem?_range (show j < 32 by omega), List.getElem?_eq_getElem hj, Option.map_some, List.getD_eq_getElem?_getD, Option.getD_some]
  · rw [if_neg hk]
    cases k with
    | zero => rfl
    | succ j =>
      have hj : s.length ≤ j := by omega
      simp only [File.row, List.getElem?_cons_succ, List.getElem?_map, List.getElem?_replicate]
      by_cases h2 : j < 32
      · rw [List.getElem?_range h2, if_pos h2]
        simp [List.getD_eq_getElem?_getD, List.getElem?_eq_none hj]
      · rw [if_neg h2, List.getElem?_eq_none (by simp; omega)]; rfl

theorem zeroMan_sub : Sub (.agg [.int .u64 0, .int .i64 0, .int .i64 0, .sl .full 0 []]) (zeroMan.av .no) := Sub.agg (vs := [.int .u64 0, .int .i64 0, .int .i64 0, .sl .no 33 []]) ⟨Sub.refl _, Sub.refl _, Sub.refl _, Sub.empty, trivial⟩

theorem man_bd (n : Nat) (m : Man) (e : Int) : Bd n (.tup [m.av .no, .int .i64 e]) := .tup fun x hx => by
  simp only [List.mem_cons, List.not_mem_nil, or_false] at hx
  rcases hx with rfl | rfl
  · refine .agg fun y hy => ?_
    simp only [List.mem_cons, List.not_mem_nil, or_false] at hy
    rcases hy with rfl | rfl | rfl | rfl
    · exact .int
    · exact .int
    · exact .int
    · exact rows_bd n m.fs
  · exact .int

def decR (b : List UInt8) : AV := match decMan b with
  | some m => .tup [m.av .no, .int .i64 0]
  | none => .tup [zeroMan.av .no, .int .i64 12]

theorem decP_size (b : List UInt8) : (decP b).1.size ≤ b.length + 100 := by
  have h0 : zeroOct.size ≤ 100 := by
    have := wide_le 0 (by decide)
    rw [zeroOct, leaf_size]; simp; omega
  unfold decP
  split
  · exact Nat.le_trans h0 (by omega)
  · split
    · rename_i o h
      have := parse_size h
      split
      · simp only; simp at this; omega
      · exact Nat.le_trans h0 (by omega)
    · exact Nat.le_trans h0 (by omega)

theorem decP_err (b : List UInt8) : (decP b).2 ≠ 0 → (decP b).1 = zeroOct := by
  unfold decP
  split
  · intro _; rfl
  · split
    · split
      · intro h; exact absurd rfl h
      · intro _; rfl
    · intro _; rfl

theorem items_size {o : Oct} {i : Nat} (h : i < o.items.length) : o.items[i].size ≤ o.size := by
  obtain ⟨t, bs, is⟩ := o
  have := size_get (is := is) h
  rw [size_mk]
  show is[i].size ≤ _
  omega

theorem manDecode_A (b : List UInt8) (H : List AObj) (hb : b.length ≤ 100000000000) :
    CallsA E 15 [.sl .no 1 (b.map byteRow)] H (Is H (decR b)) := by
  obtain ⟨o, ho⟩ : ∃ o, o = (decP b).1 := ⟨_, rfl⟩
  obtain ⟨e0, he0⟩ : ∃ e, e = (decP b).2 := ⟨_, rfl⟩
  have hsz := decP_size b
  have hD := fun H => octDecode_A b H (by omega)
  rw [← ho, ← he0] at hD
  have hRS := fun H => ReadSeq_A o 128 3 203 H (by rw [ho]; omega)
  have hF : ∀ (L : List AObj) (a b : Int), L[3]? = some (errB a) → CallsA E 34 [.int .i64 b, .ptr H.length 3 0] (H ++ L) (fun e H' => H' = H ++ L.set 3 (errB (orI a b)) ∧ e = .ret (.tup [])) := fun L a b h => by
    have := fail_A a b H.length 3 (H ++ L) (app_get rfl h)
    rw [set_app] at this
    exact this
  refine .enter Try.func15 rfl rfl rfl 108 Try.ntmps15 (Nat.le_of_ble_eq_true rfl) ?_
  repeat' first
    | refine WpA.seq ?_
    | refine WpA.region ?_
    | refine WpOps.op _ rfl rfl rfl rfl rfl ?_
    | refine WpOps.box _ rfl rfl rfl rfl rfl ?_
    | refine WpOps.alloc _ rfl rfl rfl rfl rfl rfl ?_
    | refine WpOps.store rfl rfl rfl rfl rfl rfl rfl rfl rfl rfl ?_
    | refine WpOps.skip rfl rfl rfl ?_
    | refine WpOps.build _ rfl rfl rfl rfl rfl ?_
    | refine WpOps.sh _ rfl rfl rfl rfl rfl ?_
    | (refine WpOps.call rfl rfl rfl rfl rfl (by exact hD _) ?_; rintro _ _ ⟨rfl, rfl⟩)
    | (refine WpOps.call rfl rfl rfl rfl rfl (by exact hRS _) ?_; rintro _ _ ⟨rfl, rfl⟩)
    | (refine WpOps.call rfl rfl rfl rfl rfl (by exact hF _ _ _ rfl) ?_; rintro _ _ ⟨rfl, rfl⟩)
    | refine WpOps.gsplit _ rfl rfl rfl (fun h => ?_) (fun h => ?_)
    | refine WpA.block ?_
    | refine WpA.exit ?_
    | refine WpOps.nil ?_
    | refine WpA.ret ?_
    | refine WpA.skip ?_
    | refine WpA.condT rfl ?_
    | refine WpA.condF rfl ?_
    | refine WpA.cond _ rfl (fun h => ?_) (fun h => ?_)
    | refine WpA.draw (by kernel_rfl) ?_
    | refine LexA.op _ rfl rfl rfl rfl rfl ?_
    | refine LexA.skip rfl rfl rfl ?_
    | refine LexA.build _ rfl rfl rfl rfl rfl ?_
    | refine LexA.sh _ rfl rfl rfl rfl rfl ?_
    | refine LexA.call rfl rfl rfl rfl rfl (by exact hD _) ?_
    | refine LexA.call rfl rfl rfl rfl rfl (by exact hRS _) ?_
    | refine LexA.gsplit _ rfl rfl rfl (fun h => ?_) (fun h => ?_)
    | refine LexA.nil ?_
  · have he : decMan b = none := by
      rw [decMan, if_neg]
      rintro ⟨h1, h2, _⟩
      rw [← he0] at h1
      rw [← ho] at h2
      rw [h1, h2] at h
      exact absurd h (by decide)
    rw [decR, he]
    exact retK.sub (.inr rfl) rfl (TrOk.refl H) (L := _) rfl rfl (Sub.tup (vs := [zeroMan.av .no, .int .i64 12]) ⟨zeroMan_sub, Sub.refl _, trivial⟩) (man_bd _ _ _) ⟨rfl, rfl⟩
  · obtain ⟨hz, hq⟩ : e0 = 0 ∧ seqOk o 128 3 203 = true := by
      cases hs : seqOk o 128 3 203 with
      | true => rw [hs] at h; simp [orI] at h; exact ⟨by omega, rfl⟩
      | false => rw [hs] at h; simp [orI] at h; split at h <;> simp_all
    clear hD hRS
    subst hz
    have hq2 := hq
    simp only [seqOk, Bool.and_eq_true, beq_iff_eq, decide_eq_true_eq] at hq2
    obtain ⟨⟨⟨hq3, hq4⟩, hq5⟩, hq6⟩ := hq2
    simp only [hq, if_true]
    have hNC : ∀ (L : List AObj) (i : Nat) (most : Nat) (a : Int), i < o.items.length → i < 255 → L[5]? = some (.cells [.sl .no 3 (Oct.cellsL o.items)]) → L[4]? = some (.cells [.func 34 [.ptr H.length 3 0]]) → L[3]? = some (errB a) →
        CallsA E 37 [.int .i64 (i : Nat), .int .u64 (most : Nat), .ptr H.length 5 0, .ptr H.length 4 0] (H ++ L) (fun e H' => H' = H ++ L.set 3 (errB (orI a ((numAt o i most).2 : Nat))) ∧ e = .ret (.int .u64 ((numAt o i most).1 : Nat))) := fun L i most a hi h255 h5 h4 h3 => by
      have := numC_A o.items i hi most h255 a H.length 5 4 3 (H ++ L) (app_get rfl h5) (app_get rfl h4) (app_get rfl h3)
      rw [set_app] at this
      have e : o.items.getD i zeroOct = o.items[i] := by rw [List.getD_eq_getElem?_getD, List.getElem?_eq_getElem hi]; rfl
      rw [numAt, e]
      exact this
    repeat' first
      | refine WpA.seq ?_
      | refine WpA.region ?_
      | refine WpOps.op _ rfl rfl rfl rfl rfl ?_
      | refine WpOps.box _ rfl rfl rfl rfl rfl ?_
      | refine WpOps.alloc _ rfl rfl rfl rfl rfl rfl ?_
      | refine WpOps.store rfl rfl rfl rfl rfl rfl rfl rfl rfl rfl ?_
      | refine WpOps.skip rfl rfl rfl ?_
      | refine WpOps.build _ rfl rfl rfl rfl rfl ?_
      | refine WpOps.sh _ rfl rfl rfl rfl rfl ?_
      | (refine WpOps.call rfl rfl rfl rfl rfl (by exact hNC _ 0 big _ (by omega) (by decide) rfl rfl rfl) ?_; rintro _ _ ⟨rfl, rfl⟩)
      | (refine WpOps.call rfl rfl rfl rfl rfl (by exact hNC _ 1 tmax _ (by omega) (by decide) rfl rfl rfl) ?_; rintro _ _ ⟨rfl, rfl⟩)
      | (refine WpOps.call rfl rfl rfl rfl rfl (by exact hNC _ 2 tmax _ (by omega) (by decide) rfl rfl rfl) ?_; rintro _ _ ⟨rfl, rfl⟩)
      | (refine WpOps.slice 3 _ rfl rfl rfl rfl rfl rfl rfl ⟨_, _, rfl, (by decide), rfl⟩ rfl (by rw [cellsL_length]; omega) (Nat.le_refl _) ?_)
      | refine WpOps.gsplit _ rfl rfl rfl (fun h => ?_) (fun h => ?_)
      | refine WpA.block ?_
      | refine WpA.exit ?_
      | refine WpOps.nil ?_
      | refine WpA.ret ?_
      | refine WpA.skip ?_
      | refine WpA.condT rfl ?_
      | refine WpA.condF rfl ?_
      | refine WpA.cond _ rfl (fun h => ?_) (fun h => ?_)
      | refine WpA.draw (by kernel_rfl) ?_
      | refine LexA.op _ rfl rfl rfl rfl rfl ?_
      | refine LexA.skip rfl rfl rfl ?_
      | refine LexA.build _ rfl rfl rfl rfl rfl ?_
      | refine LexA.sh _ rfl rfl rfl rfl rfl ?_
      | refine LexA.gsplit _ rfl rfl rfl (fun h => ?_) (fun h => ?_)
      | refine LexA.nil ?_
    · obtain ⟨os, hos⟩ : ∃ os, os = o.items.drop 3 := ⟨_, rfl⟩
      have hdr : ((Oct.cellsL o.items).take (Oct.cellsL o.items).length).drop 3 = Oct.cellsL os := by rw [List.take_length, cellsL_map, cellsL_map, hos, List.map_drop]
      have hol : os.length ≤ 200 := by rw [hos, List.length_drop]; omega
      have w1 : IntKind.i64.wrap ((numAt o 1 tmax).1 : Nat) = ((numAt o 1 tmax).1 : Nat) := by
        have : (numAt o 1 tmax).1 ≤ 1099511627776 := readNum_le _ _ _
        exact wrap64 (by omega) (by omega)
      have w2 : IntKind.i64.wrap ((numAt o 2 tmax).1 : Nat) = ((numAt o 2 tmax).1 : Nat) := by
        have : (numAt o 2 tmax).1 ≤ 1099511627776 := readNum_le _ _ _
        exact wrap64 (by omega) (by omega)
      have hosz : ∀ (i : Nat) (h : i < os.length), os[i].size ≤ 200000000000 := fun i h => by
        have h1 : i + 3 < o.items.length := by rw [hos, List.length_drop] at h; omega
        have h2 := items_size h1
        have h3 : os[i] = o.items[i + 3] := by subst hos; rw [List.getElem_drop]; congr 1; omega
        have h4 : o.size ≤ b.length + 100 := by rw [ho]; exact hsz
        rw [h3]
        omega
      refine WpA.adoptC (j := 1) (q := 3) 33 rfl rfl ?_
      refine WpA.loopG os.length (fun i => [(2, .ptr H.length 0 0), (4, .ptr H.length 1 0), (6, .ptr H.length 3 0), (7, .ptr H.length 4 0), (50, .sl .no 3 (Oct.cellsL os)), (51, .int .i64 (os.length : Nat)), (52, .int .i64 (i : Nat))])
        (fun i => H ++ [.cells [.int .u64 0, .int .i64 0, .int .i64 0, .sl .full 0 []], .cells [.int .u64 ((numAt o 0 big).1 : Nat), .int .i64 (IntKind.i64.wrap ((numAt o 1 tmax).1 : Nat)), .int .i64 (IntKind.i64.wrap ((numAt o 2 tmax).1 : Nat)), .sl (.row H.length 6) 33 (rows ((os.take i).map fileOf))],
          .cells o.cells, errB (errAt (err3 o) (os.take i)), .cells [.func 34 [.ptr H.length 3 0]], .cells [.sl .no 3 (Oct.cellsL o.items)], .tail (rows ((os.take i).map fileOf)).length 33])
        (fun i => (os.take i).all (fun o => seqOk o 129 2 2) = true) rfl ⟨rfl, rfl, rfl, rfl, ?_, ?_, rfl, trivial⟩ ?_ (fun _ _ => by simp) (fun i _ _ => ?_) (fun i hi _ => ?_) (fun i hi hok => ?_) (fun hok => ?_) (fun _ => ⟨rfl, rfl, rfl, rfl, rfl, rfl, rfl, trivial⟩)
      · rw [← hdr]; rfl
      · show AV.int .i64 ((((Oct.cellsL o.items).take (Oct.cellsL o.items).length).drop 3).length : Nat) = _
        rw [hdr, cellsL_length]
      · rfl
      · refine TrOk.app fun j x hj => ?_
        rcases j with _ | _ | _ | _ | _ | _ | _ | j
        · exact .inl hj
        · injection hj with hj; subst hj; exact .inr (obd_cells (by
            intro x hx
            simp only [List.mem_cons, List.not_mem_nil, or_false] at hx
            rcases hx with rfl | rfl | rfl | rfl
            · exact .int
            · exact .int
            · exact .int
            · refine .sl (fun _ _ e => by cases e; simp) fun x hx e he => ?_
              have := rows_bd (H.length + 7) ((os.take (i + 1)).map fileOf)
              cases this with
              | sl _ h => exact (h x hx e he).le (by simp)))
        · exact .inl hj
        · injection hj with hj; subst hj; exact .inr (obd_cells (by intro x hx; have := List.mem_singleton.1 hx; subst this; exact .int))
        · exact .inl hj
        · exact .inl hj
        · injection hj with hj; subst hj; exact .inr (obd_tail)
        · cases hj
      · exact ⟨.ptr (by simp), .ptr (by simp), .ptr (by simp), .ptr (by simp), .sl (fun _ _ e => by cases e) (Oct.bdL _ _), .int, .int, trivial⟩
      · have hc : (Oct.cellsL os)[((i : Nat) : Int).toNat]? = some (os[i]).cells := by rw [Int.toNat_natCast]; exact cellsL_get hi
        have hRS := fun H => ReadSeq_A os[i] 129 2 2 H (by have := hosz i hi; omega)
        have hok1 : (os.take (i + 1)).all (fun o => seqOk o 129 2 2) = seqOk os[i] 129 2 2 := by
          rw [List.take_succ_eq_append_getElem hi, List.all_append, hok]; simp
        repeat' first
          | refine WpA.seq ?_
          | refine WpA.region ?_
          | refine WpOps.op _ rfl rfl rfl rfl rfl ?_
          | refine WpOps.box _ rfl rfl rfl rfl rfl ?_
          | refine WpOps.alloc _ rfl rfl rfl rfl rfl rfl ?_
          | refine WpOps.store rfl rfl rfl rfl rfl rfl rfl rfl rfl rfl ?_
          | refine WpOps.skip rfl rfl rfl ?_
          | refine WpOps.build _ rfl rfl rfl rfl rfl ?_
          | refine WpOps.sh _ rfl rfl rfl rfl rfl ?_
          | (refine WpOps.call rfl rfl rfl rfl rfl (by exact hRS _) ?_; rintro _ _ ⟨rfl, rfl⟩)
          | refine WpOps.elem (os[i]).cells rfl rfl rfl rfl rfl rfl rfl rfl rfl (Int.natCast_nonneg i) hc ?_
          | refine WpOps.gsplit _ rfl rfl rfl (fun h => ?_) (fun h => ?_)
          | refine WpA.block ?_
          | refine WpA.exit ?_
          | refine WpOps.nil ?_
          | refine WpA.ret ?_
          | refine WpA.skip ?_
          | refine WpA.condT rfl ?_
          | refine WpA.condF rfl ?_
          | refine WpA.cond _ rfl (fun h => ?_) (fun h => ?_)
          | refine WpA.draw (by kernel_rfl) ?_
          | refine LexA.op _ rfl rfl rfl rfl rfl ?_
          | refine LexA.skip rfl rfl rfl ?_
          | refine LexA.build _ rfl rfl rfl rfl rfl ?_
          | refine LexA.sh _ rfl rfl rfl rfl rfl ?_
          | refine LexA.call rfl rfl rfl rfl rfl (by exact hRS _) ?_
          | refine LexA.gsplit _ rfl rfl rfl (fun h => ?_) (fun h => ?_)
          | refine LexA.nil ?_
        · have hs : seqOk os[i] 129 2 2 = false := by
            cases hs : seqOk os[i] 129 2 2 with
            | false => rfl
            | true => rw [hs] at h; exact absurd h (by decide)
          have he : decMan b = none := by
            rw [decMan, if_neg]
            rintro ⟨_, _, h3, _⟩
            rw [← ho, ← hos, List.all_eq_true] at h3
            rw [h3 _ (List.getElem_mem hi)] at hs
            cases hs
          rw [decR, he]
          exact retK.sub (.inr rfl) rfl (TrOk.refl H) (L := _) rfl rfl (Sub.tup (vs := [zeroMan.av .no, .int .i64 12]) ⟨zeroMan_sub, Sub.refl _, trivial⟩) (man_bd _ _ _) ⟨rfl, rfl⟩
        · have hs : seqOk os[i] 129 2 2 = true := by
            cases hs : seqOk os[i] 129 2 2 with
            | true => rfl
            | false => rw [hs] at h; exact absurd h (by decide)
          simp only [hs, if_true]
          have hl2 : os[i].items.length = 2 := by
            simp only [seqOk, Bool.and_eq_true, beq_iff_eq, decide_eq_true_eq] at hs
            omega
          obtain ⟨x0, x1, hx⟩ : ∃ x0 x1, os[i].items = [x0, x1] := by
            match os[i].items, hl2 with
            | [x0, x1], _ => exact ⟨x0, x1, rfl⟩
          have hR0 : ∀ H, CallsA E 39 [.agg x0.cells, .int .u8 1, .int .i64 40] H (Is H (.tup [.str (rs os[i] 0 1 40).1, .int .i64 (rs os[i] 0 1 40).2])) := fun H => by
            have : rs os[i] 0 1 40 = readStr x0.tag x0.bs (Oct.cellsL x0.items) 1 40 := by rw [rs, hx]; rfl
            rw [this]; exact ReadStr_A x0.tag x0.bs (Oct.cellsL x0.items) 1 40 H
          have hR1 : ∀ H, CallsA E 39 [.agg x1.cells, .int .u8 2, .int .i64 32] H (Is H (.tup [.str (rs os[i] 1 2 32).1, .int .i64 (rs os[i] 1 2 32).2])) := fun H => by
            have : rs os[i] 1 2 32 = readStr x1.tag x1.bs (Oct.cellsL x1.items) 2 32 := by rw [rs, hx]; rfl
            rw [this]; exact ReadStr_A x1.tag x1.bs (Oct.cellsL x1.items) 2 32 H
          have hn : (rs os[i] 1 2 32).1.length ≤ 32 := readStr_len _ _ _ _ 32
          have hc0 : (Oct.cellsL os[i].items)[(0 : Int).toNat]? = some x0.cells := by rw [hx, cellsL_map]; rfl
          have hc1 : (Oct.cellsL os[i].items)[(1 : Int).toNat]? = some x1.cells := by rw [hx, cellsL_map]; rfl
          have hp := hash_put (rs os[i] 0 1 40).1 (rs os[i] 1 2 32).1 hn
          repeat' first
            | refine WpA.drawI [] [1, 0, 0, 0, 0, 2] (by kernel_rfl) (by kernel_rfl) ?_
            | refine WpA.seq ?_
            | refine WpA.region ?_
            | refine WpOps.op _ rfl rfl rfl rfl rfl ?_
            | refine WpOps.box _ rfl rfl rfl rfl rfl ?_
            | refine WpOps.alloc _ rfl rfl rfl rfl rfl rfl ?_
            | refine WpOps.store rfl rfl rfl rfl rfl rfl rfl rfl rfl rfl ?_
            | refine WpOps.skip rfl rfl rfl ?_
            | refine WpOps.build _ rfl rfl rfl rfl rfl ?_
            | refine WpOps.sh _ rfl rfl rfl rfl rfl ?_
            | (refine WpOps.call rfl rfl rfl rfl rfl (by exact hR0 _) ?_; rintro _ _ ⟨rfl, rfl⟩)
            | (refine WpOps.call rfl rfl rfl rfl rfl (by exact hR1 _) ?_; rintro _ _ ⟨rfl, rfl⟩)
            | (refine WpOps.call rfl rfl rfl rfl rfl (by exact Or_A _ _ _) ?_; rintro _ _ ⟨rfl, rfl⟩)
            | (refine WpOps.elem x0.cells rfl rfl rfl rfl rfl rfl rfl rfl rfl (by decide) hc0 ?_)
            | (refine WpOps.elem x1.cells rfl rfl rfl rfl rfl rfl rfl rfl rfl (by decide) hc1 ?_)
            | (refine WpOps.call rfl rfl rfl rfl rfl (by exact hF _ _ _ rfl) ?_; rintro _ _ ⟨rfl, rfl⟩)
            | (refine LexH.call2 rfl rfl rfl rfl rfl rfl (by exact hF _ _ _ rfl) ?_)
            | (refine WpOps.p1 rfl rfl rfl (.sliceArr rfl rfl rfl) ?_)
            | (refine WpOps.copyS rfl rfl rfl rfl rfl rfl rfl rfl rfl rfl (by exact hp) ?_)
            | (refine WpOps.buildSlice _ rfl rfl rfl rfl rfl rfl rfl rfl rfl rfl rfl ?_)
            | refine WpOps.gsplit _ rfl rfl rfl (fun h => ?_) (fun h => ?_)
            | refine WpA.block ?_
            | refine WpA.exit ?_
            | refine WpOps.nil ?_
            | refine WpA.ret ?_
            | refine WpA.skip ?_
            | refine WpA.condT rfl ?_
            | refine WpA.condF rfl ?_
            | refine WpA.cond _ rfl (fun h => ?_) (fun h => ?_)
            | refine WpA.drawC (by kernel_rfl) (by kernel_rfl) ?_
            | refine LexH.op0 _ rfl rfl rfl rfl rfl (fun _ => rfl) ?_
            | refine LexH.op1 _ rfl rfl rfl rfl rfl rfl ?_
            | refine LexH.load4 _ rfl rfl rfl rfl rfl rfl (by simp) rfl rfl rfl rfl ?_
            | refine LexH.skip rfl rfl rfl ?_
            | refine LexH.build _ rfl rfl rfl rfl rfl rfl ?_
            | refine LexH.buildSlice _ rfl rfl rfl rfl rfl rfl rfl rfl rfl rfl rfl rfl ?_
            | refine LexH.store rfl rfl rfl rfl rfl rfl rfl rfl rfl rfl rfl ?_
            | refine LexH.sh _ rfl rfl rfl rfl rfl rfl ?_
            | refine LexH.call rfl rfl rfl rfl rfl rfl (by exact hR0 _) ?_
            | refine LexH.call0 rfl rfl rfl rfl rfl rfl (fun _ => by exact hR0 _) ?_
            | refine LexH.call rfl rfl rfl rfl rfl rfl (by exact hR1 _) ?_
            | refine LexH.call0 rfl rfl rfl rfl rfl rfl (fun _ => by exact hR1 _) ?_
            | refine LexH.call rfl rfl rfl rfl rfl rfl (by exact Or_A _ _ _) ?_
            | refine LexH.call0 rfl rfl rfl rfl rfl rfl (fun _ => by exact Or_A _ _ _) ?_
            | refine LexH.gsplit _ rfl rfl rfl (fun h => ?_) (fun h => ?_)
            | refine LexH.nil ?_
          all_goals
            have hm : rows ((os.take i).map fileOf) ++ [(File.mk (rs os[i] 0 1 40).1 fun k => (rs os[i] 1 2 32).1.getD k 0).row] = rows ((os.take (i + 1)).map fileOf) := by
              rw [List.take_succ_eq_append_getElem hi, rows, rows, List.map_append, List.map_append]; rfl
            have hst : errAt (err3 o) (os.take (i + 1)) = stepE (errAt (err3 o) (os.take i)) os[i] := by
              rw [List.take_succ_eq_append_getElem hi, errAt, errAt, List.foldl_append]; rfl
            refine WpOps.appR rfl rfl rfl rfl rfl rfl rfl (fun k h => by cases h) rfl rfl rfl rfl rfl rfl ?_ ?_ ?_
          · intro y hy a ha
            have hy' := List.mem_singleton.1 hy
            subst hy'
            revert a
            show ∀ a ∈ File.row _, a.one = true
            intro a ha
            rcases List.mem_cons.1 ha with rfl | ha
            · rfl
            · obtain ⟨k, _, rfl⟩ := List.mem_map.1 ha
              rfl
          · show ((rows ((os.take i).map fileOf)).length + 1) * 48 ≤ _
            rw [rows_length, List.length_map, List.length_take]; omega
          · repeat' first
              | refine WpA.seq ?_
              | refine WpA.region ?_
              | refine WpOps.op _ rfl rfl rfl rfl rfl ?_
              | refine WpOps.box _ rfl rfl rfl rfl rfl ?_
              | refine WpOps.alloc _ rfl rfl rfl rfl rfl rfl ?_
              | refine WpOps.store rfl rfl rfl rfl rfl rfl rfl rfl rfl rfl ?_
              | refine WpOps.skip rfl rfl rfl ?_
              | refine WpOps.build _ rfl rfl rfl rfl rfl ?_
              | refine WpOps.sh _ rfl rfl rfl rfl rfl ?_
              | refine WpOps.gsplit _ rfl rfl rfl (fun h => ?_) (fun h => ?_)
              | refine WpA.block ?_
              | refine WpA.exit ?_
              | refine WpOps.nil ?_
              | refine WpA.ret ?_
              | refine WpA.skip ?_
              | refine WpA.condT rfl ?_
              | refine WpA.condF rfl ?_
              | refine WpA.cond _ rfl (fun h => ?_) (fun h => ?_)
              | refine WpA.draw (by kernel_rfl) ?_
              | refine LexA.op _ rfl rfl rfl rfl rfl ?_
              | refine LexA.skip rfl rfl rfl ?_
              | refine LexA.build _ rfl rfl rfl rfl rfl ?_
              | refine LexA.sh _ rfl rfl rfl rfl rfl ?_
              | refine LexA.gsplit _ rfl rfl rfl (fun h => ?_) (fun h => ?_)
              | refine LexA.nil ?_
            have e12 : stepE (errAt (err3 o) (os.take i)) os[i] = orI (orI (errAt (err3 o) (os.take i)) (orI (rs os[i] 0 1 40).2 (rs os[i] 1 2 32).2)) 12 := by
              rw [stepE, if_pos]
              have h' := of_decide_eq_true h
              omega
            refine ⟨by rw [hok1]; exact hs, ⟨rfl, rfl, rfl, rfl, rfl, rfl, congrArg (AV.int .i64) (wrap64 (by omega) (by omega)), trivial⟩, [.cells os[i].cells, .cells (File.mk (rs os[i] 0 1 40).1 fun k => (rs os[i] 1 2 32).1.getD k 0).row], ?_⟩
            rw [hst, e12, ← hm]
            exact grow rfl
          · intro y hy a ha
            have hy' := List.mem_singleton.1 hy
            subst hy'
            revert a
            show ∀ a ∈ File.row _, a.one = true
            intro a ha
            rcases List.mem_cons.1 ha with rfl | ha
            · rfl
            · obtain ⟨k, _, rfl⟩ := List.mem_map.1 ha
              rfl
          · show ((rows ((os.take i).map fileOf)).length + 1) * 48 ≤ _
            rw [rows_length, List.length_map, List.length_take]; omega
          · repeat' first
              | refine WpA.seq ?_
              | refine WpA.region ?_
              | refine WpOps.op _ rfl rfl rfl rfl rfl ?_
              | refine WpOps.box _ rfl rfl rfl rfl rfl ?_
              | refine WpOps.alloc _ rfl rfl rfl rfl rfl rfl ?_
              | refine WpOps.store rfl rfl rfl rfl rfl rfl rfl rfl rfl rfl ?_
              | refine WpOps.skip rfl rfl rfl ?_
              | refine WpOps.build _ rfl rfl rfl rfl rfl ?_
              | refine WpOps.sh _ rfl rfl rfl rfl rfl ?_
              | refine WpOps.gsplit _ rfl rfl rfl (fun h => ?_) (fun h => ?_)
              | refine WpA.block ?_
              | refine WpA.exit ?_
              | refine WpOps.nil ?_
              | refine WpA.ret ?_
              | refine WpA.skip ?_
              | refine WpA.condT rfl ?_
              | refine WpA.condF rfl ?_
              | refine WpA.cond _ rfl (fun h => ?_) (fun h => ?_)
              | refine WpA.draw (by kernel_rfl) ?_
              | refine LexA.op _ rfl rfl rfl rfl rfl ?_
              | refine LexA.skip rfl rfl rfl ?_
              | refine LexA.build _ rfl rfl rfl rfl rfl ?_
              | refine LexA.sh _ rfl rfl rfl rfl rfl ?_
              | refine LexA.gsplit _ rfl rfl rfl (fun h => ?_) (fun h => ?_)
              | refine LexA.nil ?_
            have e12 : stepE (errAt (err3 o) (os.take i)) os[i] = orI (errAt (err3 o) (os.take i)) (orI (rs os[i] 0 1 40).2 (rs os[i] 1 2 32).2) := by
              have h' := of_decide_eq_false h
              rw [stepE, if_neg (by omega), orI]
              split
              · rename_i h0; exact h0.symm
              · rfl
            refine ⟨by rw [hok1]; exact hs, ⟨rfl, rfl, rfl, rfl, rfl, rfl, congrArg (AV.int .i64) (wrap64 (by omega) (by omega)), trivial⟩, [.cells os[i].cells, .cells (File.mk (rs os[i] 0 1 40).1 fun k => (rs os[i] 1 2 32).1.getD k 0).row], ?_⟩
            rw [hst, e12, ← hm]
            exact grow rfl
        · simp at h
          omega
      · have htk : os.take os.length = os := List.take_length
        have hCk : ∀ (tg : Tag) (fs : List File) (H), fs.length ≤ 1000 → CallsA E 9 [.agg [.int .u64 ((numAt o 0 big).1 : Nat), .int .i64 (IntKind.i64.wrap ((numAt o 1 tmax).1 : Nat)), .int .i64 (IntKind.i64.wrap ((numAt o 2 tmax).1 : Nat)), .sl tg 33 (rows fs)]] H (Is H (.int .i64 (check ⟨((numAt o 0 big).1 : Nat), ((numAt o 1 tmax).1 : Nat), ((numAt o 2 tmax).1 : Nat), fs⟩))) := fun tg fs H hl => by
          rw [w1, w2]
          have := Check_A ⟨((numAt o 0 big).1 : Nat), ((numAt o 1 tmax).1 : Nat), ((numAt o 2 tmax).1 : Nat), fs⟩ H (by show fs.length ≤ _; omega)
          exact CallsA.subL (vs := [Man.av ⟨((numAt o 0 big).1 : Nat), ((numAt o 1 tmax).1 : Nat), ((numAt o 2 tmax).1 : Nat), fs⟩ .no]) ⟨Sub.agg (vs := [.int .u64 ((numAt o 0 big).1 : Nat), .int .i64 ((numAt o 1 tmax).1 : Nat), .int .i64 ((numAt o 2 tmax).1 : Nat), .sl .no 33 (rows fs)]) ⟨Sub.refl _, Sub.refl _, Sub.refl _, Sub.untag, trivial⟩, trivial⟩ this
        have hm : manOf o = ⟨((numAt o 0 big).1 : Nat), ((numAt o 1 tmax).1 : Nat), ((numAt o 2 tmax).1 : Nat), (os.take os.length).map fileOf⟩ := by rw [manOf, ← hos, htk]
        have hlf : ((os.take os.length).map fileOf).length ≤ 1000 := by rw [List.length_map, htk]; omega
        have hdm : decMan b = if orI (errAt (err3 o) (os.take os.length)) (check (manOf o)) = 0 then some (manOf o) else none := by
          rw [decMan, ← ho, ← he0, ← hos, htk]
          rw [htk] at hok
          by_cases hc : orI (errAt (err3 o) os) (check (manOf o)) = 0
          · rw [if_pos hc, if_pos ⟨rfl, hq, hok, hc⟩]
          · rw [if_neg hc, if_neg (fun h => hc h.2.2.2)]
        repeat' first
          | refine WpA.drawI [H.length + 1] [1, 4, 0, 3] (by kernel_rfl) (by kernel_rfl) ?_
          | refine WpA.seq ?_
          | refine WpA.region ?_
          | refine WpOps.op _ rfl rfl rfl rfl rfl ?_
          | refine WpOps.box _ rfl rfl rfl rfl rfl ?_
          | refine WpOps.alloc _ rfl rfl rfl rfl rfl rfl ?_
          | refine WpOps.store rfl rfl rfl rfl rfl rfl rfl rfl rfl rfl ?_
          | refine WpOps.skip rfl rfl rfl ?_
          | refine WpOps.build _ rfl rfl rfl rfl rfl ?_
          | refine WpOps.sh _ rfl rfl rfl rfl rfl ?_
          | (refine WpOps.call rfl rfl rfl rfl rfl (by exact hCk _ _ _ hlf) ?_; rintro _ _ ⟨rfl, rfl⟩)
          | (refine LexH.call3 rfl rfl rfl rfl rfl rfl (by exact hF _ _ _ rfl) (by exact Like.one fun _ h => h) ?_)
          | refine WpOps.gsplit _ rfl rfl rfl (fun h => ?_) (fun h => ?_)
          | refine WpA.block ?_
          | refine WpA.exit ?_
          | refine WpOps.nil ?_
          | refine WpA.ret ?_
          | refine WpA.skip ?_
          | refine WpA.condT rfl ?_
          | refine WpA.condF rfl ?_
          | refine WpA.cond _ rfl (fun h => ?_) (fun h => ?_)
          | refine WpA.drawC (by kernel_rfl) (by kernel_rfl) ?_
          | refine LexH.op0 _ rfl rfl rfl rfl rfl (fun _ => rfl) ?_
          | refine LexH.op1 _ rfl rfl rfl rfl rfl rfl ?_
          | refine LexH.load4 _ rfl rfl rfl rfl rfl rfl (by simp) rfl rfl rfl rfl ?_
          | refine LexH.skip rfl rfl rfl ?_
          | refine LexH.build _ rfl rfl rfl rfl rfl rfl ?_
          | refine LexH.buildSlice _ rfl rfl rfl rfl rfl rfl rfl rfl rfl rfl rfl rfl ?_
          | refine LexH.store rfl rfl rfl rfl rfl rfl rfl rfl rfl rfl rfl ?_
          | refine LexH.sh _ rfl rfl rfl rfl rfl rfl ?_
          | refine LexH.call rfl rfl rfl rfl rfl rfl (by exact hCk _ _ _ hlf) ?_
          | refine LexH.call0 rfl rfl rfl rfl rfl rfl (fun _ => by exact hCk _ _ _ hlf) ?_
          | refine LexH.gsplit _ rfl rfl rfl (fun h => ?_) (fun h => ?_)
          | refine LexH.nil ?_
        · simp at h
        · have hc : ¬ orI (errAt (err3 o) (os.take os.length)) (check (manOf o)) = 0 := by rw [hm]; simpa using h
          rw [decR, hdm, if_neg hc]
          exact retK.sub (.inr rfl) rfl (TrOk.refl H) (L := _) rfl rfl (Sub.tup (vs := [zeroMan.av .no, .int .i64 12]) ⟨zeroMan_sub, Sub.refl _, trivial⟩) (man_bd _ _ _) ⟨rfl, rfl⟩
        · have hc : orI (errAt (err3 o) (os.take os.length)) (check (manOf o)) = 0 := by rw [hm]; simpa using h
          rw [decR, hdm, if_pos hc]
          refine retK.sub (.inr rfl) rfl (TrOk.refl H) (L := _) rfl rfl (Sub.tup (vs := [(manOf o).av .no, .int .i64 0]) ⟨?_, Sub.refl _, trivial⟩) (man_bd _ _ _) ⟨rfl, rfl⟩
          rw [hm]
          show Sub (.agg [.int .u64 ((numAt o 0 big).1 : Nat), .int .i64 (IntKind.i64.wrap ((numAt o 1 tmax).1 : Nat)), .int .i64 (IntKind.i64.wrap ((numAt o 2 tmax).1 : Nat)), .sl (.row H.length 6) 33 (rows ((os.take os.length).map fileOf))]) _
          rw [w1, w2]
          exact Sub.agg (vs := [.int .u64 ((numAt o 0 big).1 : Nat), .int .i64 ((numAt o 1 tmax).1 : Nat), .int .i64 ((numAt o 2 tmax).1 : Nat), .sl .no 33 (rows ((os.take os.length).map fileOf))]) ⟨Sub.refl _, Sub.refl _, Sub.refl _, Sub.untag, trivial⟩
end Go.Gp.Try

/- The reference's octets: ReadNum; its manifests: number, time, bytes. -/
namespace Go.Gp.Try
open Go.Proofs
set_option linter.unusedVariables false
set_option linter.unusedSimpArgs false
set_option maxHeartbeats 4000000
set_option maxRecDepth 100000

theorem rReadNum_A (o : Oct) (t : UInt8) (most : Nat) (H : List AObj) : CallsA E 62 [.agg o.cells, u8 t, .int .u64 (most : Nat)] H (Is H (.tup [.int .u64 ((readNum o t most).1 : Nat), .int .i64 ((readNum o t most).2 : Nat)])) := by
  have hlen : (Oct.cellsL o.items).length = o.items.length := cellsL_length o.items
  have hlb : (o.bs.map byteRow).length = o.bs.length := List.length_map _
  have bad : ¬ (o.tag = t ∧ o.items.length = 0 ∧ o.bs.length ≤ 8 ∧ o.bs.head? ≠ some 0 ∧ beVal 0 o.bs ≤ most) → readNum o t most = (0, 12) := fun h => by
    rw [readNum, if_neg h]
  have bd : ∀ n (x y : Int), Bd n (.tup [.int .u64 x, .int .i64 y]) := fun n x y => .tup fun e he => by
    simp only [List.mem_cons, List.not_mem_nil, or_false] at he
    rcases he with rfl | rfl <;> exact .int
  have hhd : decide (((o.bs.map byteRow).length : Int) > 0) = true → (o.bs.map byteRow)[(0 : Int).toNat]? = some (byteRow (o.bs.headD 0)) := fun h => by
    cases hb : o.bs with
    | nil => rw [hb] at h; simp at h
    | cons b r => rfl
  have hz : ∀ b : UInt8, (((b.toNat : Nat) : Int) == 0) = (b == 0) := fun b => by
    rw [Bool.eq_iff_iff]; simp only [beq_iff_eq]
    exact ⟨fun h => UInt8.toNat_inj.1 (by show b.toNat = 0; omega), fun h => by rw [h]; rfl⟩
  have hh : ∀ l : List UInt8, l.head? = some 0 ↔ 0 < l.length ∧ l.headD 0 = 0 := fun l => by cases l <;> simp
  refine .enter Try.func62 rfl rfl rfl 59 Try.ntmps62 (Nat.le_of_ble_eq_true rfl) ?_
  repeat' first
    | refine WpA.seq ?_
    | refine WpA.region ?_
    | refine WpOps.op _ rfl rfl rfl rfl rfl ?_
    | refine WpOps.box _ rfl rfl rfl rfl rfl ?_
    | refine WpOps.alloc _ rfl rfl rfl rfl rfl rfl ?_
    | refine WpOps.store rfl rfl rfl rfl rfl rfl rfl rfl rfl rfl ?_
    | refine WpOps.skip rfl rfl rfl ?_
    | refine WpOps.build _ rfl rfl rfl rfl rfl ?_
    | refine WpOps.sh _ rfl rfl rfl rfl rfl ?_
    | refine WpOps.elem (byteRow (o.bs.headD 0)) rfl rfl rfl rfl rfl rfl rfl rfl rfl (by decide) (hhd (by assumption)) ?_
    | refine WpOps.gsplit _ rfl rfl rfl (fun h => ?_) (fun h => ?_)
    | refine WpA.block ?_
    | refine WpA.exit ?_
    | refine WpOps.nil ?_
    | refine WpA.ret ?_
    | refine WpA.skip ?_
    | refine WpA.condT rfl ?_
    | refine WpA.condF rfl ?_
    | refine WpA.cond _ rfl (fun h => ?_) (fun h => ?_)
    | refine WpA.draw (by kernel_rfl) ?_
    | refine LexA.op _ rfl rfl rfl rfl rfl ?_
    | refine LexA.skip rfl rfl rfl ?_
    | refine LexA.build _ rfl rfl rfl rfl rfl ?_
    | refine LexA.sh _ rfl rfl rfl rfl rfl ?_
    | refine LexA.gsplit _ rfl rfl rfl (fun h => ?_) (fun h => ?_)
    | refine LexA.nil ?_
  all_goals simp only [cond_true, cond_false, List.length_map, hlen, u8_bne, hz, Bool.not_eq_true', Bool.not_eq_false', beq_iff_eq, beq_eq_false_iff_ne, decide_eq_true_eq, decide_eq_false_iff_not, ne_eq] at *
  any_goals
    rw [bad (by rintro ⟨h1, h2, h3, h4, h5⟩; rw [hh] at h4; first | exact absurd h1 (by assumption) | omega | (exact h4 ⟨by omega, by assumption⟩))]
    exact retK.ok rfl rfl rfl (bd _ _ _)
  all_goals
    have hgood : o.tag = t ∧ o.items.length = 0 ∧ o.bs.length ≤ 8 ∧ o.bs.head? ≠ some 0 := by
      rw [ne_eq, hh]
      refine ⟨by assumption, by omega, by omega, ?_⟩
      rintro ⟨h1, h2⟩
      first | omega | (revert h2; assumption)
    have h8 := hgood.2.2.1
    have hv : ∀ i, i < o.bs.length → beVal 0 (o.bs.take i) < 72057594037927936 := fun i hi => by
      have h1 := beVal_lt (o.bs.take i) 0 0 (by decide)
      have h2 : 2 ^ (0 + 8 * (o.bs.take i).length) ≤ 2 ^ 56 := Nat.pow_le_pow_right (by decide) (by rw [List.length_take]; omega)
      exact Nat.lt_of_lt_of_le h1 h2
    refine WpA.loopFor o.bs.length (fun i => [(2, .int .u64 (most : Nat)), (3, .ptr H.length 0 0), (8, .int .u64 (beVal 0 (o.bs.take i) : Nat)), (9, .int .i64 (i : Nat))])
      (fun _ => H ++ [.cells o.cells]) (fun _ => True) trivial ⟨rfl, rfl, rfl, rfl, trivial⟩ rfl (fun i hi _ => ?_) (fun _ => ?_)
    · have hc : (o.bs.map byteRow)[((i : Nat) : Int).toNat]? = some (byteRow o.bs[i]) := bytes_get hi
      have hb := (o.bs[i]).toNat_lt
      have hvi := hv i hi
      have hlt : decide (((i : Nat) : Int) < ((o.bs.map byteRow).length : Nat)) = true := by rw [List.length_map]; simp; omega
      repeat' first
        | refine WpA.seq ?_
        | refine WpA.region ?_
        | refine WpOps.op _ rfl rfl rfl rfl rfl ?_
        | refine WpOps.box _ rfl rfl rfl rfl rfl ?_
        | refine WpOps.alloc _ rfl rfl rfl rfl rfl rfl ?_
        | refine WpOps.store rfl rfl rfl rfl rfl rfl rfl rfl rfl rfl ?_
        | refine WpOps.skip rfl rfl rfl ?_
        | refine WpOps.build _ rfl rfl rfl rfl rfl ?_
        | refine WpOps.sh _ rfl rfl rfl rfl rfl ?_
        | refine WpOps.gsplit _ rfl rfl rfl (fun h => ?_) (fun h => ?_)
        | refine WpA.block ?_
        | refine WpA.exit ?_
        | refine WpOps.nil ?_
        | refine WpA.ret ?_
        | refine WpA.skip ?_
        | refine WpA.condT rfl ?_
        | refine WpA.condF rfl ?_
        | refine WpA.draw (by kernel_rfl) ?_
        | refine LexA.op _ rfl rfl rfl rfl rfl ?_
        | refine LexA.skip rfl rfl rfl ?_
        | refine LexA.build _ rfl rfl rfl rfl rfl ?_
        | refine LexA.sh _ rfl rfl rfl rfl rfl ?_
        | refine LexA.gsplit _ rfl rfl rfl (fun h => ?_) (fun h => ?_)
        | refine LexA.nil ?_
      refine WpA.cond true (congrArg AV.bool hlt) (fun h => ?_) (fun h => by cases h)
      repeat' first
        | refine WpA.seq ?_
        | refine WpA.region ?_
        | refine WpOps.op _ rfl rfl rfl rfl rfl ?_
        | refine WpOps.box _ rfl rfl rfl rfl rfl ?_
        | refine WpOps.alloc _ rfl rfl rfl rfl rfl rfl ?_
        | refine WpOps.store rfl rfl rfl rfl rfl rfl rfl rfl rfl rfl ?_
        | refine WpOps.skip rfl rfl rfl ?_
        | refine WpOps.build _ rfl rfl rfl rfl rfl ?_
        | refine WpOps.sh _ rfl rfl rfl rfl rfl ?_
        | refine WpOps.elem (byteRow o.bs[i]) rfl rfl rfl rfl rfl rfl rfl rfl rfl (Int.natCast_nonneg i) hc ?_
        | refine WpOps.gsplit _ rfl rfl rfl (fun h => ?_) (fun h => ?_)
        | refine WpA.block ?_
        | refine WpA.exit ?_
        | refine WpOps.nil ?_
        | refine WpA.ret ?_
        | refine WpA.skip ?_
        | refine WpA.condT rfl ?_
        | refine WpA.condF rfl ?_
        | refine WpA.cond _ rfl (fun h => ?_) (fun h => ?_)
        | refine WpA.draw (by kernel_rfl) ?_
        | refine LexA.op _ rfl rfl rfl rfl rfl ?_
        | refine LexA.skip rfl rfl rfl ?_
        | refine LexA.build _ rfl rfl rfl rfl rfl ?_
        | refine LexA.sh _ rfl rfl rfl rfl rfl ?_
        | refine LexA.gsplit _ rfl rfl rfl (fun h => ?_) (fun h => ?_)
        | refine LexA.nil ?_
      refine ⟨trivial, ⟨rfl, rfl, congrArg (AV.int .u64) ?_, congrArg (AV.int .i64) (wrap64 (by omega) (by omega)), trivial⟩, rfl⟩
      show IntKind.u64.wrap (IntKind.u64.wrap (256 * ((beVal 0 (o.bs.take i) : Nat) : Int)) + IntKind.u64.wrap ((o.bs[i]).toNat : Int)) = _
      rw [wrapu64 (x := ((o.bs[i]).toNat : Int)) (by omega) (by omega), wrapu64 (x := 256 * _) (by omega) (by omega), wrapu64 (by omega) (by omega), beVal_take hi]
      omega
    · have hlt : decide (((o.bs.length : Nat) : Int) < ((o.bs.map byteRow).length : Nat)) = false := by rw [List.length_map]; simp
      repeat' first
        | refine WpA.seq ?_
        | refine WpA.region ?_
        | refine WpOps.op _ rfl rfl rfl rfl rfl ?_
        | refine WpOps.box _ rfl rfl rfl rfl rfl ?_
        | refine WpOps.alloc _ rfl rfl rfl rfl rfl rfl ?_
        | refine WpOps.store rfl rfl rfl rfl rfl rfl rfl rfl rfl rfl ?_
        | refine WpOps.skip rfl rfl rfl ?_
        | refine WpOps.build _ rfl rfl rfl rfl rfl ?_
        | refine WpOps.sh _ rfl rfl rfl rfl rfl ?_
        | refine WpOps.gsplit _ rfl rfl rfl (fun h => ?_) (fun h => ?_)
        | refine WpA.block ?_
        | refine WpA.exit ?_
        | refine WpOps.nil ?_
        | refine WpA.ret ?_
        | refine WpA.skip ?_
        | refine WpA.condT rfl ?_
        | refine WpA.condF rfl ?_
        | refine WpA.draw (by kernel_rfl) ?_
        | refine LexA.op _ rfl rfl rfl rfl rfl ?_
        | refine LexA.skip rfl rfl rfl ?_
        | refine LexA.build _ rfl rfl rfl rfl rfl ?_
        | refine LexA.sh _ rfl rfl rfl rfl rfl ?_
        | refine LexA.gsplit _ rfl rfl rfl (fun h => ?_) (fun h => ?_)
        | refine LexA.nil ?_
      refine WpA.cond false (congrArg AV.bool hlt) (fun h => by cases h) (fun h => ?_)
      clear h
      repeat' first
        | refine WpA.seq ?_
        | refine WpA.region ?_
        | refine WpOps.op _ rfl rfl rfl rfl rfl ?_
        | refine WpOps.box _ rfl rfl rfl rfl rfl ?_
        | refine WpOps.alloc _ rfl rfl rfl rfl rfl rfl ?_
        | refine WpOps.store rfl rfl rfl rfl rfl rfl rfl rfl rfl rfl ?_
        | refine WpOps.skip rfl rfl rfl ?_
        | refine WpOps.build _ rfl rfl rfl rfl rfl ?_
        | refine WpOps.sh _ rfl rfl rfl rfl rfl ?_
        | refine WpOps.gsplit _ rfl rfl rfl (fun h => ?_) (fun h => ?_)
        | refine WpA.block ?_
        | refine WpA.exit ?_
        | refine WpOps.nil ?_
        | refine WpA.ret ?_
        | refine WpA.skip ?_
        | refine WpA.condT rfl ?_
        | refine WpA.condF rfl ?_
        | refine WpA.cond _ rfl (fun h => ?_) (fun h => ?_)
        | refine WpA.draw (by kernel_rfl) ?_
        | refine LexA.op _ rfl rfl rfl rfl rfl ?_
        | refine LexA.skip rfl rfl rfl ?_
        | refine LexA.build _ rfl rfl rfl rfl rfl ?_
        | refine LexA.sh _ rfl rfl rfl rfl rfl ?_
        | refine LexA.gsplit _ rfl rfl rfl (fun h => ?_) (fun h => ?_)
        | refine LexA.nil ?_
      · have hm : ¬ beVal 0 o.bs ≤ most := by
          rw [List.take_length] at h
          have h' := of_decide_eq_true h
          omega
        rw [bad (fun hx => hm hx.2.2.2.2)]
        exact retK.ok rfl rfl rfl (bd _ _ _)
      · have hm : beVal 0 o.bs ≤ most := by
          rw [List.take_length] at h
          have h' := of_decide_eq_false h
          omega
        rw [readNum, if_pos ⟨hgood.1, hgood.2.1, hgood.2.2.1, hgood.2.2.2, hm⟩]
        refine retK.ok rfl rfl ?_ (bd _ _ _)
        rw [List.take_length]; rfl

def numR (o : Oct) (t : UInt8) : Nat := if (readNum o t big).2 ≠ 0 then big else (readNum o t big).1
def timeR (x : Nat) : Int := if tmax < x then -1 else (x : Int)

theorem rnumber_A (os : List Oct) (i : Nat) (t : UInt8) (hi : i < os.length) (H : List AObj) : CallsA E 41 [.sl .no 3 (Oct.cellsL os), .int .i64 (i : Nat), u8 t] H (Is H (.int .u64 (numR os[i] t : Nat))) := by
  have hc : (Oct.cellsL os)[((i : Nat) : Int).toNat]? = some (os[i]).cells := by rw [Int.toNat_natCast]; exact cellsL_get hi
  have hR := fun H => rReadNum_A os[i] t big H
  refine .enter Try.func41 rfl rfl rfl 21 Try.ntmps41 (Nat.le_of_ble_eq_true rfl) ?_
  repeat' first
    | refine WpA.seq ?_
    | refine WpA.region ?_
    | refine WpOps.op _ rfl rfl rfl rfl rfl ?_
    | refine WpOps.box _ rfl rfl rfl rfl rfl ?_
    | refine WpOps.alloc _ rfl rfl rfl rfl rfl rfl ?_
    | refine WpOps.store rfl rfl rfl rfl rfl rfl rfl rfl rfl rfl ?_
    | refine WpOps.skip rfl rfl rfl ?_
    | refine WpOps.build _ rfl rfl rfl rfl rfl ?_
    | refine WpOps.sh _ rfl rfl rfl rfl rfl ?_
    | (refine WpOps.call rfl rfl rfl rfl rfl (by exact hR _) ?_; rintro _ _ ⟨rfl, rfl⟩)
    | refine WpOps.elem (os[i]).cells rfl rfl rfl rfl rfl rfl rfl rfl rfl (Int.natCast_nonneg i) hc ?_
    | refine WpOps.gsplit _ rfl rfl rfl (fun h => ?_) (fun h => ?_)
    | refine WpA.block ?_
    | refine WpA.exit ?_
    | refine WpOps.nil ?_
    | refine WpA.ret ?_
    | refine WpA.skip ?_
    | refine WpA.condT rfl ?_
    | refine WpA.condF rfl ?_
    | refine WpA.cond _ rfl (fun h => ?_) (fun h => ?_)
    | refine WpA.draw (by kernel_rfl) ?_
    | refine LexA.op _ rfl rfl rfl rfl rfl ?_
    | refine LexA.skip rfl rfl rfl ?_
    | refine LexA.build _ rfl rfl rfl rfl rfl ?_
    | refine LexA.sh _ rfl rfl rfl rfl rfl ?_
    | refine LexA.call rfl rfl rfl rfl rfl (by exact hR _) ?_
    | refine LexA.gsplit _ rfl rfl rfl (fun h => ?_) (fun h => ?_)
    | refine LexA.nil ?_
  · have h' : ¬ (readNum os[i] t big).2 = 0 := by simpa using h
    rw [numR, if_pos h']
    exact retK.ok rfl rfl rfl .int
  · have h' : (readNum os[i] t big).2 = 0 := by simpa using h
    rw [numR, if_neg (by simpa using h')]
    exact retK.ok rfl rfl rfl .int

theorem rtime_A (x : Nat) (H : List AObj) : CallsA E 42 [.int .u64 (x : Nat)] H (Is H (.int .i64 (timeR x))) := by
  refine .enter Try.func42 rfl rfl rfl 7 Try.ntmps42 (Nat.le_of_ble_eq_true rfl) ?_
  obtain ⟨b1, h1⟩ : ∃ b1, decide (((x : Nat) : Int) > 1099511627776) = b1 := ⟨_, rfl⟩
  repeat' first
    | refine WpA.seq ?_
    | refine WpA.region ?_
    | refine WpOps.op _ rfl rfl rfl rfl rfl ?_
    | refine WpOps.box _ rfl rfl rfl rfl rfl ?_
    | refine WpOps.alloc _ rfl rfl rfl rfl rfl rfl ?_
    | refine WpOps.store rfl rfl rfl rfl rfl rfl rfl rfl rfl rfl ?_
    | refine WpOps.skip rfl rfl rfl ?_
    | refine WpOps.build _ rfl rfl rfl rfl rfl ?_
    | refine WpOps.sh _ rfl rfl rfl rfl rfl ?_
    | refine WpOps.gsplit _ rfl rfl rfl (fun h => ?_) (fun h => ?_)
    | refine WpA.block ?_
    | refine WpA.exit ?_
    | refine WpOps.nil ?_
    | refine WpA.ret ?_
    | refine WpA.skip ?_
    | refine WpA.draw (by kernel_rfl) ?_
    | refine LexA.op _ rfl rfl rfl rfl rfl ?_
    | refine LexA.skip rfl rfl rfl ?_
    | refine LexA.build _ rfl rfl rfl rfl rfl ?_
    | refine LexA.sh _ rfl rfl rfl rfl rfl ?_
    | refine LexA.gsplit _ rfl rfl rfl (fun h => ?_) (fun h => ?_)
    | refine LexA.nil ?_
  refine WpA.cond b1 (congrArg AV.bool h1) (fun h => ?_) (fun h => ?_)
  · subst h
    have h1 := of_decide_eq_true h1
    have e : timeR x = -1 := if_pos (show tmax < x by unfold tmax; omega)
    rw [e]
    repeat' first
      | refine WpA.seq ?_
      | refine WpA.region ?_
      | refine WpOps.op _ rfl rfl rfl rfl rfl ?_
      | refine WpOps.box _ rfl rfl rfl rfl rfl ?_
      | refine WpOps.alloc _ rfl rfl rfl rfl rfl rfl ?_
      | refine WpOps.store rfl rfl rfl rfl rfl rfl rfl rfl rfl rfl ?_
      | refine WpOps.skip rfl rfl rfl ?_
      | refine WpOps.build _ rfl rfl rfl rfl rfl ?_
      | refine WpOps.sh _ rfl rfl rfl rfl rfl ?_
      | refine WpOps.gsplit _ rfl rfl rfl (fun h => ?_) (fun h => ?_)
      | refine WpA.block ?_
      | refine WpA.exit ?_
      | refine WpOps.nil ?_
      | refine WpA.ret ?_
      | refine WpA.skip ?_
      | refine WpA.draw (by kernel_rfl) ?_
      | refine LexA.op _ rfl rfl rfl rfl rfl ?_
      | refine LexA.skip rfl rfl rfl ?_
      | refine LexA.build _ rfl rfl rfl rfl rfl ?_
      | refine LexA.sh _ rfl rfl rfl rfl rfl ?_
      | refine LexA.gsplit _ rfl rfl rfl (fun h => ?_) (fun h => ?_)
      | refine LexA.nil ?_
    exact retK.ok rfl rfl rfl .int
  · subst h
    have h1 := of_decide_eq_false h1
    have e : timeR x = (x : Int) := if_neg (show ¬ tmax < x by unfold tmax; omega)
    rw [e]
    repeat' first
      | refine WpA.seq ?_
      | refine WpA.region ?_
      | refine WpOps.op _ rfl rfl rfl rfl rfl ?_
      | refine WpOps.box _ rfl rfl rfl rfl rfl ?_
      | refine WpOps.alloc _ rfl rfl rfl rfl rfl rfl ?_
      | refine WpOps.store rfl rfl rfl rfl rfl rfl rfl rfl rfl rfl ?_
      | refine WpOps.skip rfl rfl rfl ?_
      | refine WpOps.build _ rfl rfl rfl rfl rfl ?_
      | refine WpOps.sh _ rfl rfl rfl rfl rfl ?_
      | refine WpOps.gsplit _ rfl rfl rfl (fun h => ?_) (fun h => ?_)
      | refine WpA.block ?_
      | refine WpA.exit ?_
      | refine WpOps.nil ?_
      | refine WpA.ret ?_
      | refine WpA.skip ?_
      | refine WpA.draw (by kernel_rfl) ?_
      | refine LexA.op _ rfl rfl rfl rfl rfl ?_
      | refine LexA.skip rfl rfl rfl ?_
      | refine LexA.build _ rfl rfl rfl rfl rfl ?_
      | refine LexA.sh _ rfl rfl rfl rfl rfl ?_
      | refine LexA.gsplit _ rfl rfl rfl (fun h => ?_) (fun h => ?_)
      | refine LexA.nil ?_
    exact retK.ok rfl rfl (congrArg (AV.int .i64) (wrap64 (by omega) (by omega))) .int

theorem rbytes_A (hf : Nat → UInt8) (H : List AObj) : CallsA E 56 [.agg ((List.range 32).map fun i => u8 (hf i))] H (Is H (.sl .no 1 (((List.range 32).map hf).map byteRow))) := by
  refine .enter Try.func56 rfl rfl rfl 16 Try.ntmps56 (Nat.le_of_ble_eq_true rfl) ?_
  repeat' first
    | refine WpA.seq ?_
    | refine WpA.region ?_
    | refine WpOps.op _ rfl rfl rfl rfl rfl ?_
    | refine WpOps.box _ rfl rfl rfl rfl rfl ?_
    | refine WpOps.alloc _ rfl rfl rfl rfl rfl rfl ?_
    | refine WpOps.store rfl rfl rfl rfl rfl rfl rfl rfl rfl rfl ?_
    | refine WpOps.skip rfl rfl rfl ?_
    | refine WpOps.build _ rfl rfl rfl rfl rfl ?_
    | refine WpOps.sh _ rfl rfl rfl rfl rfl ?_
    | refine WpOps.gsplit _ rfl rfl rfl (fun h => ?_) (fun h => ?_)
    | refine WpA.block ?_
    | refine WpA.exit ?_
    | refine WpOps.nil ?_
    | refine WpA.ret ?_
    | refine WpA.skip ?_
    | refine WpA.condT rfl ?_
    | refine WpA.condF rfl ?_
    | refine WpA.cond _ rfl (fun h => ?_) (fun h => ?_)
    | refine WpA.draw (by kernel_rfl) ?_
    | refine LexA.op _ rfl rfl rfl rfl rfl ?_
    | refine LexA.skip rfl rfl rfl ?_
    | refine LexA.build _ rfl rfl rfl rfl rfl ?_
    | refine LexA.sh _ rfl rfl rfl rfl rfl ?_
    | refine LexA.gsplit _ rfl rfl rfl (fun h => ?_) (fun h => ?_)
    | refine LexA.nil ?_
  refine WpA.adoptS 3 1 rfl ?_
  refine WpA.loopFor 32 (fun i => [(1, .ptr H.length 0 0), (3, .sl (.row H.length 1) 1 (((List.range i).map hf).map byteRow)), (4, .int .i64 (i : Nat))])
    (fun i => H ++ [.cells ((List.range 32).map fun i => u8 (hf i)), .tail (((List.range i).map hf).map byteRow).length 1]) (fun _ => True) trivial ⟨rfl, rfl, rfl, trivial⟩ rfl (fun i hi _ => ?_) (fun _ => ?_)
  · have hlt : decide (((i : Nat) : Int) < 32) = true := by simp; omega
    have hi32 : ((i : Nat) : Int) < ((32 : Nat) : Int) := by omega
    have hfit : ((((List.range i).map hf).map byteRow).length + 1) * 1 ≤ 140737488355328 := by simp; omega
    have hld : (bif Nat.ble (0 + ((i : Nat) : Int).toNat * 1 + 1) ((List.range 32).map fun i => u8 (hf i)).length then varA t5 (((List.range 32).map fun i => u8 (hf i)).drop (0 + ((i : Nat) : Int).toNat * 1)) else none) = some (u8 (hf i)) := by
      have h1 : Nat.ble (0 + ((i : Nat) : Int).toNat * 1 + 1) ((List.range 32).map fun i => u8 (hf i)).length = true := by
        rw [Int.toNat_natCast]; simp; omega
      have h2 : ((List.range 32).map fun i => u8 (hf i)).drop (0 + ((i : Nat) : Int).toNat * 1) = u8 (hf i) :: ((List.range 32).map fun i => u8 (hf i)).drop (i + 1) := by
        rw [Int.toNat_natCast, Nat.zero_add, Nat.mul_one, List.drop_eq_getElem_cons (by simp; omega)]
        simp
      rw [h1, h2]; rfl
    repeat' first
      | refine WpA.seq ?_
      | refine WpA.region ?_
      | refine WpOps.op _ rfl rfl rfl rfl rfl ?_
      | refine WpOps.box _ rfl rfl rfl rfl rfl ?_
      | refine WpOps.alloc _ rfl rfl rfl rfl rfl rfl ?_
      | refine WpOps.store rfl rfl rfl rfl rfl rfl rfl rfl rfl rfl ?_
      | refine WpOps.skip rfl rfl rfl ?_
      | refine WpOps.build _ rfl rfl rfl rfl rfl ?_
      | refine WpOps.sh _ rfl rfl rfl rfl rfl ?_
      | refine WpOps.gsplit _ rfl rfl rfl (fun h => ?_) (fun h => ?_)
      | refine WpA.block ?_
      | refine WpA.exit ?_
      | refine WpOps.nil ?_
      | refine WpA.ret ?_
      | refine WpA.skip ?_
      | refine WpA.condT rfl ?_
      | refine WpA.condF rfl ?_
      | refine WpA.draw (by kernel_rfl) ?_
      | refine LexA.op _ rfl rfl rfl rfl rfl ?_
      | refine LexA.skip rfl rfl rfl ?_
      | refine LexA.build _ rfl rfl rfl rfl rfl ?_
      | refine LexA.sh _ rfl rfl rfl rfl rfl ?_
      | refine LexA.gsplit _ rfl rfl rfl (fun h => ?_) (fun h => ?_)
      | refine LexA.nil ?_
    refine WpA.cond true (congrArg AV.bool hlt) (fun h => ?_) (fun h => by cases h)
    repeat' first
      | refine WpA.seq ?_
      | refine WpA.region ?_
      | refine WpOps.op _ rfl rfl rfl rfl rfl ?_
      | refine WpOps.box _ rfl rfl rfl rfl rfl ?_
      | refine WpOps.alloc _ rfl rfl rfl rfl rfl rfl ?_
      | refine WpOps.store rfl rfl rfl rfl rfl rfl rfl rfl rfl rfl ?_
      | refine WpOps.skip rfl rfl rfl ?_
      | refine WpOps.build _ rfl rfl rfl rfl rfl ?_
      | refine WpOps.sh _ rfl rfl rfl rfl rfl ?_
      | (refine WpOps.elemA _ rfl rfl rfl rfl rfl rfl rfl (Int.natCast_nonneg i) hi32 rfl ?_)
      | (refine WpOps.op _ rfl rfl rfl hld rfl ?_)
      | (refine WpOps.buildSlice _ rfl rfl rfl rfl rfl rfl rfl rfl rfl rfl rfl ?_)
      | (refine WpOps.appR rfl rfl rfl rfl rfl rfl rfl (fun k h => by cases h) rfl rfl rfl rfl rfl rfl (by exact bytes_one [hf i]) (by exact hfit) ?_)
      | refine WpOps.gsplit _ rfl rfl rfl (fun h => ?_) (fun h => ?_)
      | refine WpA.block ?_
      | refine WpA.exit ?_
      | refine WpOps.nil ?_
      | refine WpA.ret ?_
      | refine WpA.skip ?_
      | refine WpA.condT rfl ?_
      | refine WpA.condF rfl ?_
      | refine WpA.cond _ rfl (fun h => ?_) (fun h => ?_)
      | refine WpA.draw (by kernel_rfl) ?_
      | refine LexA.op _ rfl rfl rfl rfl rfl ?_
      | refine LexA.skip rfl rfl rfl ?_
      | refine LexA.build _ rfl rfl rfl rfl rfl ?_
      | refine LexA.sh _ rfl rfl rfl rfl rfl ?_
      | refine LexA.gsplit _ rfl rfl rfl (fun h => ?_) (fun h => ?_)
      | refine LexA.nil ?_
    have e : ((List.range i).map hf).map byteRow ++ [byteRow (hf i)] = ((List.range (i + 1)).map hf).map byteRow := by rw [List.range_succ, List.map_append, List.map_append]; rfl
    refine ⟨trivial, ⟨rfl, congrArg (AV.sl _ 1) e, congrArg (AV.int .i64) (wrap64 (by omega) (by omega)), trivial⟩, ?_⟩
    rw [← e]
    rfl
  · repeat' first
      | refine WpA.seq ?_
      | refine WpA.region ?_
      | refine WpOps.op _ rfl rfl rfl rfl rfl ?_
      | refine WpOps.box _ rfl rfl rfl rfl rfl ?_
      | refine WpOps.alloc _ rfl rfl rfl rfl rfl rfl ?_
      | refine WpOps.store rfl rfl rfl rfl rfl rfl rfl rfl rfl rfl ?_
      | refine WpOps.skip rfl rfl rfl ?_
      | refine WpOps.build _ rfl rfl rfl rfl rfl ?_
      | refine WpOps.sh _ rfl rfl rfl rfl rfl ?_
      | refine WpOps.gsplit _ rfl rfl rfl (fun h => ?_) (fun h => ?_)
      | refine WpA.block ?_
      | refine WpA.exit ?_
      | refine WpOps.nil ?_
      | refine WpA.ret ?_
      | refine WpA.skip ?_
      | refine WpA.condT rfl ?_
      | refine WpA.condF rfl ?_
      | refine WpA.cond _ rfl (fun h => ?_) (fun h => ?_)
      | refine WpA.draw (by kernel_rfl) ?_
      | refine LexA.op _ rfl rfl rfl rfl rfl ?_
      | refine LexA.skip rfl rfl rfl ?_
      | refine LexA.build _ rfl rfl rfl rfl rfl ?_
      | refine LexA.sh _ rfl rfl rfl rfl rfl ?_
      | refine LexA.gsplit _ rfl rfl rfl (fun h => ?_) (fun h => ?_)
      | refine LexA.nil ?_
    exact retK.sub (.inr rfl) rfl (TrOk.refl H) (L := _) rfl rfl (r := .sl .no 1 (((List.range 32).map hf).map byteRow)) Sub.untag (bd_slB _) ⟨rfl, rfl⟩
end Go.Gp.Try
