/- Part of a proof: GdX6 -/
import Derived.Test.YtmacdhglhafldaaDoorK17
import Derived.Test.YtmacdhglhafldaaDoorK31

/- The law ManifestChanges: its walk. -/
namespace Go.Gp.Tryd
open Go.Proofs
set_option linter.unusedVariables false
set_option linter.unusedSimpArgs false
set_option maxHeartbeats 4000000
set_option maxRecDepth 100000

theorem flat_set1 {α : Type} (z : Nat) : ∀ (rs : List (List α)) (i k : Nat) (v : α), (∀ x ∈ rs, x.length = z) → (hi : i < rs.length) → k < z → rs.flatten.set (i * z + k) v = (rs.set i (rs[i].set k v)).flatten
  | [], _, _, _, _, h, _ => by cases h
  | x :: rs, 0, k, v, hz, _, hk => by
    have hx := hz x List.mem_cons_self
    rw [Nat.zero_mul, Nat.zero_add, List.flatten_cons, List.set_append_left _ _ (by omega), List.set_cons_zero, List.flatten_cons]
    rfl
  | x :: rs, i + 1, k, v, hz, hi, hk => by
    have hx := hz x List.mem_cons_self
    have ih := flat_set1 z rs i k v (fun y hy => hz y (List.mem_cons_of_mem _ hy)) (by simpa using hi) hk
    have e1 : (i + 1) * z + k = x.length + (i * z + k) := by rw [hx, Nat.succ_mul, Nat.add_comm (i * z) z, Nat.add_assoc]
    rw [e1, List.flatten_cons, List.set_append_right _ _ (by omega), Nat.add_sub_cancel_left, List.set_cons_succ, List.flatten_cons, ih]
    rfl
theorem put_bytes {fs : List NFile} {i : Nat} (hi : i < fs.length) (c : List UInt8) : putA (nrows fs).flatten (i * 2 + 1) [.sl .no 1 (c.map byteRow)] = (nrows (fs.set i ⟨fs[i].name, c⟩)).flatten := by
  have hl : i < (nrows fs).length := by rw [nrows_len]; exact hi
  show (nrows fs).flatten.set (i * 2 + 1) _ = _
  rw [flat_set1 2 _ i 1 _ (nrows_two fs) hl (by decide), ← nrows_set]
  congr 2
  show ((nrows fs)[i]).set 1 _ = _
  have : (nrows fs)[i] = fs[i].row := by simp [nrows]
  rw [this]; rfl
theorem nrows_append (xs ys : List NFile) : nrows (xs ++ ys) = nrows xs ++ nrows ys := List.map_append
theorem nrows_take (xs : List NFile) (k : Nat) : (nrows xs).take k = nrows (xs.take k) := by rw [nrows, nrows, List.map_take]
theorem nrows_drop (xs : List NFile) (k : Nat) : (nrows xs).drop k = nrows (xs.drop k) := by rw [nrows, nrows, List.map_drop]
/-- A report with one name. -/
theorem oneRep_A (r s : Rep) (x : AV) (hx : Sub x s.av) (H : List AObj) (h1 : r.miss.length ≤ 1125899906842624) (h2 : r.wrong.length ≤ 1125899906842624) (h3 : r.extra.length ≤ 1125899906842624) :
    CallsA E 18 [r.av, x] H (Is H (.bool (sameRep r s))) :=
  CallsA.subL (vs := [r.av, s.av]) ⟨Sub.refl _, hx, trivial⟩ (sameReport_A r s H h1 h2 h3)
theorem sameRep_refl (r : Rep) : sameRep r r = true := by simp [sameRep]

theorem changes_A (fs : List NFile) (i : Int) (one : NFile) (ct : List UInt8) (H : List AObj) (hl : fs.length ≤ 1000000000000000) (hi : -9223372036854775808 ≤ i ∧ i ≤ 9223372036854775807) :
    CallsA E 7 [.sl .no 2 (nrows fs), .int .i64 i, .agg one.row, .sl .no 1 (ct.map byteRow)] H (Is H (.bool true)) := by
  have hlen := nrows_len fs
  have hctl : (ct.map byteRow).length = ct.length := List.length_map _
  have honl : (one.bytes.map byteRow).length = one.bytes.length := List.length_map _
  have hA := fun H => alive_A H
  have hG := fun H => greatFiles_A fs H hl
  refine .enter Tryd.func7 rfl rfl rfl 184 Tryd.ntmps7 (Nat.le_of_ble_eq_true rfl) ?_
  cases hg : greatFs fs with
  | true =>
    rw [hg] at hG
    repeat' first
      | refine WpA.seq ?_
      | refine WpA.region ?_
      | refine WpOps.op _ rfl rfl rfl rfl rfl ?_
      | refine WpOps.box _ rfl rfl rfl rfl rfl ?_
      | refine WpOps.skip rfl rfl rfl ?_
      | (refine WpOps.call rfl rfl rfl rfl rfl (by exact hA _) ?_; rintro _ _ ⟨rfl, rfl⟩)
      | (refine WpOps.call rfl rfl rfl rfl rfl (by exact hG _) ?_; rintro _ _ ⟨rfl, rfl⟩)
      | refine WpOps.nil ?_
      | refine WpA.ret ?_
      | refine WpA.condT rfl ?_
    all_goals exact retK.ok («as» := [.bool true]) (by kernel_rfl) (by kernel_rfl) rfl .bool
  | false =>
  rw [hg] at hG
  by_cases hsm : 200 < one.name.length ∨ 300 < one.bytes.length ∨ 300 < ct.length
  · obtain ⟨b1, hb1⟩ : ∃ b, decide ((one.name.length : Int) > 200) = b := ⟨_, rfl⟩
    have kx : (bif false then true else decide ((one.name.length : Int) > 200)) = false → (bif false then true else decide (((one.bytes.map byteRow).length : Int) > 300)) = false → (bif false then true else decide (((ct.map byteRow).length : Int) > 300)) = false → False := fun h1 h2 h3 => by
      simp only [cond_false, decide_eq_false_iff_not, hctl, honl] at h1 h2 h3
      omega
    repeat' first
      | exact (kx (by assumption) (by assumption) (by assumption)).elim
      | refine WpA.seq ?_
      | refine WpA.region ?_
      | refine WpOps.op _ rfl rfl rfl rfl rfl ?_
      | refine WpOps.box _ rfl rfl rfl rfl rfl ?_
      | refine WpOps.skip rfl rfl rfl ?_
      | (refine WpOps.call rfl rfl rfl rfl rfl (by exact hA _) ?_; rintro _ _ ⟨rfl, rfl⟩)
      | (refine WpOps.call rfl rfl rfl rfl rfl (by exact hG _) ?_; rintro _ _ ⟨rfl, rfl⟩)
      | refine WpOps.gsplit _ rfl rfl rfl (fun h => ?_) (fun h => ?_)
      | refine WpOps.nil ?_
      | refine WpA.ret ?_
      | refine WpA.condT rfl ?_
    all_goals exact retK.ok («as» := [.bool true]) (by kernel_rfl) (by kernel_rfl) rfl .bool
  have q1 : ¬ ((bif false then true else decide ((one.name.length : Int) > 200)) = true) := by simp; omega
  have q2 : ¬ ((bif false then true else decide (((one.bytes.map byteRow).length : Int) > 300)) = true) := by simp; omega
  have q3 : ¬ ((bif false then true else decide (((ct.map byteRow).length : Int) > 300)) = true) := by simp; omega
  obtain ⟨hb1, hb2⟩ := greatFs_false hg
  have hM := fun H => make_A 1 0 5 fs H (by omega) (fun f hf => Nat.le_trans (hb2 f hf).2 (by decide))
  by_cases he : makeE 0 5 fs = 0
  · rw [he] at hM
    have hbn := (makeE_win he).2
    have hn := (byNameE_ok hbn).2.2
    by_cases hil : 0 ≤ i ∧ i.toNat < fs.length
    · obtain ⟨h0i, hil⟩ := hil
      obtain ⟨m, hm⟩ : ∃ m, makeM 1 0 5 fs = m := ⟨_, rfl⟩
      have hml : m.fs.length = fs.length := by rw [← hm, make_ok he]; exact makeFs_len fs
      rw [hm] at hM
      have r1 : ¬ ((bif false then true else decide (i < 0)) = true) := by simp; omega
      have r2 : ¬ ((bif false then true else decide (i ≥ ((nrows fs).length : Nat))) = true) := by simp; omega
      repeat' first
        | exact absurd (by assumption) q1
        | exact absurd (by assumption) q2
        | exact absurd (by assumption) q3
        | exact absurd (by assumption) r1
        | exact absurd (by assumption) r2
        | refine WpA.drawI (id := 7) [] [0, 0, 0, 0, 3, 0, 0, 0, 0, 3, 0] (by kernel_rfl) (by kernel_rfl) ?_
        | refine WpA.seq ?_
        | refine WpA.region ?_
        | refine WpOps.op _ rfl rfl rfl rfl rfl ?_
        | refine WpOps.box _ rfl rfl rfl rfl rfl ?_
        | refine WpOps.alloc _ rfl rfl rfl rfl rfl rfl ?_
        | refine WpOps.store rfl rfl rfl rfl rfl rfl rfl rfl rfl rfl ?_
        | refine WpOps.build _ rfl rfl rfl rfl rfl ?_
        | (refine WpOps.call rfl rfl rfl rfl rfl (by exact hA _) ?_; rintro _ _ ⟨rfl, rfl⟩)
        | (refine WpOps.call rfl rfl rfl rfl rfl (by exact hG _) ?_; rintro _ _ ⟨rfl, rfl⟩)
        | (refine WpOps.call rfl rfl rfl rfl rfl (by exact hM _) ?_; rintro _ _ ⟨rfl, rfl⟩)
        | refine WpOps.gsplit _ rfl rfl rfl (fun h => ?_) (fun h => ?_)
        | refine WpOps.nil ?_
        | refine WpA.skip ?_
        | refine WpA.condF rfl ?_
        | refine WpA.cond _ rfl (fun h => ?_) (fun h => ?_)
      have h0w : 0 ≤ IntKind.i64.wrap (i + 1) := by rw [wrap64 (by omega) (by omega)]; omega
      have h1w : (IntKind.i64.wrap (i + 1)).toNat = i.toNat + 1 := by rw [wrap64 (by omega) (by omega)]; omega
      have hle1 : i.toNat ≤ (nrows fs).length := by rw [hlen]; omega
      have hle2 : i.toNat + 1 ≤ (nrows fs).length := by rw [hlen]; omega
      have hfit1 : ((([] : List (List AV)).length + (((nrows fs).take i.toNat).drop 0).length) * 40) ≤ 140737488355328 := by
        rw [List.drop_zero, List.length_take, hlen, List.length_nil]; omega
      have hone1 : ∀ y ∈ ((nrows fs).take i.toNat).drop 0, ∀ a ∈ y, a.one = true := fun y hy => nrows_one fs y (List.mem_of_mem_take (List.mem_of_mem_drop hy))
      have hone2 : ∀ y ∈ ((nrows fs).take (nrows fs).length).drop (i.toNat + 1), ∀ a ∈ y, a.one = true := fun y hy => nrows_one fs y (List.mem_of_mem_take (List.mem_of_mem_drop hy))
      have hraw : [] ++ ((nrows fs).take i.toNat).drop 0 ++ ((nrows fs).take (nrows fs).length).drop (i.toNat + 1) = nrows (fs.take i.toNat ++ fs.drop (i.toNat + 1)) := by
        rw [List.nil_append, List.drop_zero, List.take_length, nrows_take, nrows_drop, ← nrows_append]
      have hfit2 : (([] ++ ((nrows fs).take i.toNat).drop 0).length + (((nrows fs).take (nrows fs).length).drop (i.toNat + 1)).length) * 40 ≤ 140737488355328 := by
        rw [← List.length_append, hraw, nrows_len, List.length_append, List.length_take, List.length_drop]; omega
      repeat' first
        | (refine LexH.buildSlice [] rfl rfl rfl rfl rfl rfl rfl rfl rfl rfl rfl rfl ?_)
        | (refine LexH.p0 rfl rfl rfl rfl (fun H0 => .slice 0 i.toNat rfl rfl rfl rfl rfl ⟨_, _, rfl, h0i, rfl⟩ (Nat.zero_le _) hle1) ?_)
        | (refine LexH.p0 rfl rfl rfl rfl (fun H0 => .slice (i.toNat + 1) (nrows fs).length rfl rfl rfl rfl ⟨_, _, rfl, h0w, h1w⟩ rfl hle2 (Nat.le_refl _)) ?_)
        | (refine LexH.appN3 rfl rfl rfl rfl rfl rfl rfl rfl (fun k h => by cases h) rfl rfl rfl rfl rfl rfl hone1 hfit1 ?_)
        | (refine LexH.appR3 rfl rfl rfl rfl rfl rfl rfl rfl (fun k h => by cases h) rfl rfl rfl rfl rfl rfl hone2 hfit2 (fun k hk => by cases hk) ?_)
        | refine WpA.seq ?_
        | refine WpA.region ?_
        | refine WpOps.op _ rfl rfl rfl rfl rfl ?_
        | refine LexH.op0 _ rfl rfl rfl rfl rfl (fun _ => rfl) ?_
        | refine LexH.nil ?_
      have hbk : ∀ f ∈ fs, f.bytes.length ≤ 1000000000 := fun f hf => Nat.le_trans (hb2 f hf).2 (by decide)
      have hF := fun H => findM_A (v := 1) he one.name H
      rw [hm] at hF
      obtain ⟨g1, g2⟩ := less_law (v := 1) he hil
      rw [hm] at g1 g2
      have hMt1 : ∀ j X, CallsA E 15 [m.av .no, .sl (.row H.length j) 2 ([] ++ ((nrows fs).take i.toNat).drop 0 ++ ((nrows fs).take (nrows fs).length).drop (i.toNat + 1))] X (Is X (.tup [Rep.av ⟨[fs[i.toNat].name], [], []⟩, .int .i64 0])) := fun j X => by
        have := match_A m (fs.take i.toNat ++ fs.drop (i.toNat + 1)) X (by omega) (by rw [List.length_append, List.length_take, List.length_drop]; omega) (fun f hf => hbk f ((erase_sub fs i.toNat).subset hf))
        rw [g1, g2, ← hraw] at this
        exact CallsA.subL (vs := [m.av .no, .sl .no 2 _]) ⟨Sub.refl _, Sub.untag, trivial⟩ this
      have hR1 : ∀ X, CallsA E 18 [Rep.av ⟨[fs[i.toNat].name], [], []⟩, .agg [.sl .full 1 (strs [fs[i.toNat].name]), .sl .full 0 [], .sl .full 0 []]] X (Is X (.bool true)) := fun X => by
        have := oneRep_A ⟨[fs[i.toNat].name], [], []⟩ ⟨[fs[i.toNat].name], [], []⟩ (.agg [.sl .full 1 (strs [fs[i.toNat].name]), .sl .full 0 [], .sl .full 0 []]) (Sub.agg (vs := [.sl .no 1 (strs [fs[i.toNat].name]), .sl .no 1 (strs []), .sl .no 1 (strs [])]) ⟨Sub.untag, Sub.empty, Sub.empty, trivial⟩) X (Nat.le_of_ble_eq_true rfl) (Nat.le_of_ble_eq_true rfl) (Nat.le_of_ble_eq_true rfl)
        rw [sameRep_refl] at this
        exact this
      have hgi : (nrows fs)[i.toNat]? = some (fs[i.toNat]).row := by rw [nrows, List.getElem?_map, List.getElem?_eq_getElem hil]; rfl
      have hii : i < ((nrows fs).length : Nat) := by rw [hlen]; omega
      have hne : nrows fs ≠ [] := by rw [← List.length_pos_iff, hlen]; omega
      repeat' first
        | (refine LexA.elem _ rfl rfl rfl rfl rfl rfl rfl rfl rfl h0i hgi ?_)
        | (refine LexA.buildSlice _ rfl rfl rfl rfl rfl rfl rfl rfl rfl rfl rfl ?_)
        | refine WpA.seq ?_
        | refine WpA.region ?_
        | refine WpOps.op _ rfl rfl rfl rfl rfl ?_
        | refine WpOps.alloc _ rfl rfl rfl rfl rfl rfl ?_
        | refine WpOps.store rfl rfl rfl rfl rfl rfl rfl rfl rfl rfl ?_
        | (refine WpOps.call rfl rfl rfl rfl rfl (by exact hMt1 _ _) ?_; rintro _ _ ⟨rfl, rfl⟩)
        | (refine WpOps.buildSlice [] rfl rfl rfl rfl rfl rfl rfl rfl rfl rfl rfl ?_)
        | refine WpOps.nil ?_
        | refine WpA.skip ?_
        | refine WpA.condF rfl ?_
        | refine WpA.draw (by kernel_rfl) ?_
        | refine LexA.op _ rfl rfl rfl rfl rfl ?_
        | refine LexA.build _ rfl rfl rfl rfl rfl ?_
        | refine LexA.call rfl rfl rfl rfl rfl (by exact hR1 _) ?_
        | refine LexA.nil ?_
      have hfit3 : fs.length * 40 ≤ 140737488355328 := by omega
      have hfl0 : ∀ l : List NFile, (nrows l).flatten.length = l.length * 2 := fun l => by rw [flat_length 2 _ (nrows_two l), nrows_len]
      have hle3 : Nat.ble (0 + i.toNat * 2 + 1 + 1) (nrows fs).flatten.length = true := by rw [hfl0]; simp; omega
      refine WpOps.p1 rfl rfl rfl (.appO (ys := nrows fs) rfl rfl rfl rfl (fun k h => by cases h) rfl rfl rfl hne ?_) ?_
      · rw [hlen]; exact hfit3
      refine WpOps.op _ rfl rfl rfl rfl rfl ?_
      refine WpOps.nil ?_
      refine WpA.seq ?_
      refine WpA.region ?_
      repeat' first
        | (refine WpOps.elemO rfl rfl rfl rfl rfl rfl rfl rfl h0i hii ?_)
        | (refine WpOps.store rfl rfl rfl rfl rfl rfl rfl rfl rfl hle3 ?_)
        | refine WpOps.op _ rfl rfl rfl rfl rfl ?_
        | refine WpOps.nil ?_
      obtain ⟨nm, hnm⟩ : ∃ nm, fs[i.toNat].name = nm := ⟨_, rfl⟩
      obtain ⟨bs, hbs⟩ : ∃ bs, fs[i.toNat].bytes = bs := ⟨_, rfl⟩
      obtain ⟨s1, s2⟩ := set_law (v := 1) he hil ct
      have hput : putA (nrows fs).flatten (0 + i.toNat * 2 + 1) [.sl .no 1 (ct.map byteRow)] = (nrows (fs.set i.toNat ⟨fs[i.toNat].name, ct⟩)).flatten := by rw [Nat.zero_add]; exact put_bytes hil ct
      have hg2 : ∀ f ∈ fs.set i.toNat ⟨fs[i.toNat].name, ct⟩, f.bytes.length ≤ 1000000000 := fun f hf => by
        rcases List.mem_or_eq_of_mem_set hf with hf | rfl
        · exact hbk f hf
        · show ct.length ≤ _; omega
      have hl2 : (fs.set i.toNat ⟨fs[i.toNat].name, ct⟩).length = fs.length := List.length_set
      have hsf := fun X => sum_A bs (by have := (hb2 _ (List.getElem_mem hil)).2; rw [hbs] at this; omega) X
      have hsc := fun X => sum_A ct (by omega) X
      rw [hm] at s1 s2
      rw [hnm] at hput hg2 hl2 s1 s2
      rw [hbs] at s2
      obtain ⟨gs, hgs⟩ : ∃ gs, fs.set i.toNat ⟨nm, ct⟩ = gs := ⟨_, rfl⟩
      obtain ⟨q, hq⟩ : ∃ q, heq ⟨nm, sha ct⟩ ⟨nm, sha bs⟩ = q := ⟨_, rfl⟩
      rw [hgs] at hput hg2 hl2 s1 s2
      rw [hq] at s2
      have hMt2 := fun X => match_A m gs X (by omega) (by omega) hg2
      rw [s1, s2] at hMt2
      have hEq : EqS E (.inl 61) [.agg (hashA (sha ct))] [.agg (hashA (sha bs))] q := by
        have := eqHash ⟨nm, sha ct⟩ ⟨nm, sha bs⟩
        rw [hq] at this
        exact this
      obtain ⟨wv, hwv⟩ : ∃ wv, (bif q then AV.sl .full 0 [] else AV.sl .full 1 (strs [nm])) = wv := ⟨_, rfl⟩
      have hR2 : ∀ X, CallsA E 18 [Rep.av ⟨[], if q = true then [] else [nm], []⟩, .agg [.sl .full 0 [], wv, .sl .full 0 []]] X (Is X (.bool true)) := fun X => by
        have := oneRep_A ⟨[], if q = true then [] else [nm], []⟩ ⟨[], if q = true then [] else [nm], []⟩ (.agg [.sl .full 0 [], wv, .sl .full 0 []]) (Sub.agg (vs := [.sl .no 1 (strs []), .sl .no 1 (strs (if q = true then [] else [nm])), .sl .no 1 (strs [])]) ⟨Sub.empty, by rw [← hwv]; cases q; exact Sub.untag; exact Sub.empty, Sub.empty, trivial⟩) X (Nat.le_of_ble_eq_true rfl) (by cases q <;> exact Nat.le_of_ble_eq_true rfl) (Nat.le_of_ble_eq_true rfl)
        rw [sameRep_refl] at this
        exact this
      have hgi2 : (nrows fs)[i.toNat]? = some [.str nm, .sl .no 1 (bs.map byteRow)] := by rw [hgi, ← hnm, ← hbs]; rfl
      have hch : chunkA 2 (nrows fs).length ((nrows gs).flatten.drop 0) = nrows gs := by
        rw [List.drop_zero, hlen, ← hl2, ← nrows_len gs]; exact chunk_flat 2 _ (nrows_two gs)
      show WpA E none 184 _ _ _ (H ++ [.cells one.row, .cells (m.cells .no), .tail ([] ++ ((nrows fs).take i.toNat).drop 0 ++ ((nrows fs).take (nrows fs).length).drop (i.toNat + 1)).length 2, .cells [.sl .no 1 (strs [fs[i.toNat].name]), .sl .no 1 [], .sl .no 1 []], .cells (putA (nrows fs).flatten (0 + i.toNat * 2 + 1) [.sl .no 1 (ct.map byteRow)])])
      refine WpA.weak (T := [(0, .sl .no 2 (nrows fs)), (1, .int .i64 i), (3, .sl .no 1 (ct.map byteRow)), (6, .ptr H.length 0 0), (9, .bool true), (10, .ptr H.length 1 0), (13, .ptr H.length 3 0), (15, .os H.length 4 0 2 (nrows fs).length)]) ⟨rfl, rfl, rfl, rfl, rfl, rfl, rfl, rfl, trivial⟩ ?_
      obtain ⟨N, hN⟩ : ∃ N, ([] ++ ((nrows fs).take i.toNat).drop 0 ++ ((nrows fs).take (nrows fs).length).drop (i.toNat + 1)).length = N := ⟨_, rfl⟩
      rw [hput, hN, hnm]
      refine WpA.freezeP (d := 6) (j := 0) rfl rfl ?_
      refine WpA.freezeS (d := 15) (j := 4) rfl rfl (by rw [hfl0, hl2, hlen]; omega) ?_
      rw [hch]
      refine WpA.seq ?_
      repeat' first
        | refine WpA.region ?_
        | refine WpOps.op _ rfl rfl rfl rfl rfl ?_
        | refine WpOps.store rfl rfl rfl rfl rfl rfl rfl rfl rfl rfl ?_
        | (refine WpOps.call rfl rfl rfl rfl rfl (by exact hMt2 _) ?_; rintro _ _ ⟨rfl, rfl⟩)
        | refine WpOps.nil ?_
      refine WpA.seq ?_
      repeat' first
        | refine WpA.region ?_
        | refine WpOps.alloc _ rfl rfl rfl rfl rfl rfl ?_
        | refine WpOps.store rfl rfl rfl rfl rfl rfl rfl rfl rfl rfl ?_
        | refine WpOps.build _ rfl rfl rfl rfl rfl ?_
        | refine WpOps.nil ?_
      refine WpA.seq ?_
      refine WpA.joinS [(0, .sl .no 2 (nrows fs)), (1, .int .i64 i), (3, .sl .no 1 (ct.map byteRow)), (6, .rp one.row), (9, .bool true), (10, .ptr H.length 1 0), (13, .ptr H.length 3 0), (14, .int .i64 0), (16, .ptr H.length 5 0)] (H ++ [.dead, .cells (m.cells .no), .tail N 2, .cells [.sl .no 1 [], .sl .no 1 (strs (if q = true then [] else [nm])), .sl .no 1 []], .dead, .cells [.sl .full 0 [], wv, .sl .full 0 []]]) ?_ ?_
      · cases q with
        | true =>
          subst hwv
          repeat' first
            | (refine LexA.elem _ rfl rfl rfl rfl rfl rfl rfl rfl rfl h0i hgi2 ?_)
            | (refine LexA.neA rfl rfl rfl rfl rfl rfl keyHash (by exact hEq) ?_)
            | refine WpA.seq ?_
            | refine WpA.skip ?_
            | refine WpA.condF rfl ?_
            | refine WpA.draw (by kernel_rfl) ?_
            | refine LexA.op _ rfl rfl rfl rfl rfl ?_
            | refine LexA.call rfl rfl rfl rfl rfl (by exact hsc _) ?_
            | refine LexA.call rfl rfl rfl rfl rfl (by exact hsf _) ?_
            | refine LexA.nil ?_
          all_goals exact ⟨⟨rfl, rfl, rfl, rfl, rfl, rfl, rfl, rfl, rfl, trivial⟩, rfl⟩
        | false =>
          subst hwv
          repeat' first
            | (refine LexA.elem _ rfl rfl rfl rfl rfl rfl rfl rfl rfl h0i hgi2 ?_)
            | (refine WpOps.elem _ rfl rfl rfl rfl rfl rfl rfl rfl rfl h0i hgi2 ?_)
            | (refine WpOps.buildSlice _ rfl rfl rfl rfl rfl rfl rfl rfl rfl rfl rfl ?_)
            | (refine LexA.neA rfl rfl rfl rfl rfl rfl keyHash (by exact hEq) ?_)
            | refine WpA.seq ?_
            | refine WpA.region ?_
            | refine WpOps.op _ rfl rfl rfl rfl rfl ?_
            | refine WpOps.store rfl rfl rfl rfl rfl rfl rfl rfl rfl rfl ?_
            | refine WpOps.nil ?_
            | refine WpA.condT rfl ?_
            | refine WpA.draw (by kernel_rfl) ?_
            | refine LexA.op _ rfl rfl rfl rfl rfl ?_
            | refine LexA.call rfl rfl rfl rfl rfl (by exact hsc _) ?_
            | refine LexA.call rfl rfl rfl rfl rfl (by exact hsf _) ?_
            | refine LexA.nil ?_
          all_goals exact ⟨⟨rfl, rfl, rfl, rfl, rfl, rfl, rfl, rfl, rfl, trivial⟩, rfl⟩
      · have hone3 : ∀ y ∈ nrows fs, ∀ a ∈ y, a.one = true := nrows_one fs
        have hone4 : ∀ y ∈ [one.row], ∀ a ∈ y, a.one = true := nrows_one [one]
        have hf3 : (([] : List (List AV)).length + (nrows fs).length) * 40 ≤ 140737488355328 := by rw [hlen, List.length_nil]; omega
        have hf4 : (([] ++ nrows fs).length + [one.row].length) * 40 ≤ 140737488355328 := by rw [List.nil_append, hlen, List.length_singleton]; omega
        obtain ⟨c, hc⟩ : ∃ c, findE fs one.name = c := ⟨_, rfl⟩
        rw [hc] at hF
        repeat' first
          | refine WpA.drawI (id := 20) [] [0, 0, 3, 0, 0, 3, 0] (by kernel_rfl) (by kernel_rfl) ?_
          | (refine LexH.buildSlice [] rfl rfl rfl rfl rfl rfl rfl rfl rfl rfl rfl rfl ?_)
          | (refine LexH.appN3 (ys := nrows fs) rfl rfl rfl rfl rfl rfl rfl rfl (fun k h => by cases h) rfl rfl rfl rfl rfl rfl hone3 hf3 ?_)
          | (refine LexH.appR3 (xs := [] ++ nrows fs) (ys := [one.row]) rfl rfl rfl rfl rfl rfl rfl rfl (fun k h => by cases h) rfl rfl rfl rfl rfl rfl hone4 hf4 (fun k hk => by cases hk) ?_)
          | refine WpA.seq ?_
          | refine WpA.region ?_
          | refine WpOps.op _ rfl rfl rfl rfl rfl ?_
          | refine WpOps.alloc _ rfl rfl rfl rfl rfl rfl ?_
          | refine WpOps.store rfl rfl rfl rfl rfl rfl rfl rfl rfl rfl ?_
          | (refine WpOps.call rfl rfl rfl rfl rfl (by exact hR2 _) ?_; rintro _ _ ⟨rfl, rfl⟩)
          | (refine WpOps.call rfl rfl rfl rfl rfl (by exact hF _) ?_; rintro _ _ ⟨rfl, rfl⟩)
          | refine WpOps.nil ?_
          | refine WpA.skip ?_
          | refine WpA.condF rfl ?_
          | refine LexH.op0 _ rfl rfl rfl rfl rfl (fun _ => rfl) ?_
          | refine LexH.buildSlice _ rfl rfl rfl rfl rfl rfl rfl rfl rfl rfl rfl rfl ?_
          | refine LexH.nil ?_
        obtain ⟨r, hr⟩ : ∃ r, matchR m (fs ++ [one]) = r := ⟨_, rfl⟩
        have hraw3 : [] ++ nrows fs ++ [one.row] = nrows (fs ++ [one]) := by rw [List.nil_append, nrows_append]; rfl
        have hmE : matchE m (fs ++ [one]) = byNameE (fs ++ [one]) := by rw [← hm]; exact matchE_make he _
        have hMt3 : ∀ j X, CallsA E 15 [m.av .no, .sl (.row H.length j) 2 ([] ++ nrows fs ++ [one.row])] X (Is X (.tup [r.av, .int .i64 (byNameE (fs ++ [one]))])) := fun j X => by
          have := match_A m (fs ++ [one]) X (by omega) (by rw [List.length_append, List.length_singleton]; omega) (fun f hf => by
            rcases List.mem_append.1 hf with hf | hf
            · exact hbk f hf
            · have := List.mem_singleton.1 hf; subst this; omega)
          rw [hr, hmE, ← hraw3] at this
          exact CallsA.subL (vs := [m.av .no, .sl .no 2 _]) ⟨Sub.refl _, Sub.untag, trivial⟩ this
        obtain ⟨e, hee⟩ : ∃ e, byNameE (fs ++ [one]) = e := ⟨_, rfl⟩
        rw [hee] at hMt3
        by_cases he0 : e = 0
        · subst he0
          obtain ⟨w1, w2⟩ := more_ok (v := 1) he one hee
          rw [hm, hr] at w2
          have hc6 : c = 6 := by rw [← hc, findE, if_neg w1]
          subst hc6
          have hR3 : ∀ X, CallsA E 18 [r.av, .agg [.sl .full 0 [], .sl .full 0 [], .sl .full 1 (strs [one.name])]] X (Is X (.bool true)) := fun X => by
            have := oneRep_A r r (.agg [.sl .full 0 [], .sl .full 0 [], .sl .full 1 (strs [one.name])]) (by rw [w2]; exact Sub.agg (vs := [.sl .no 1 (strs []), .sl .no 1 (strs []), .sl .no 1 (strs [one.name])]) ⟨Sub.empty, Sub.empty, Sub.untag, trivial⟩) X (by rw [w2]; exact Nat.le_of_ble_eq_true rfl) (by rw [w2]; exact Nat.le_of_ble_eq_true rfl) (by rw [w2]; exact Nat.le_of_ble_eq_true rfl)
            rw [sameRep_refl] at this
            exact this
          repeat' first
            | (refine WpOps.buildSlice _ rfl rfl rfl rfl rfl rfl rfl rfl rfl rfl rfl ?_)
            | refine WpA.seq ?_
            | refine WpA.region ?_
            | refine WpOps.op _ rfl rfl rfl rfl rfl ?_
            | refine WpOps.store rfl rfl rfl rfl rfl rfl rfl rfl rfl rfl ?_
            | refine WpOps.build _ rfl rfl rfl rfl rfl ?_
            | (refine WpOps.call rfl rfl rfl rfl rfl (by exact hMt3 _ _) ?_; rintro _ _ ⟨rfl, rfl⟩)
            | (refine WpOps.call rfl rfl rfl rfl rfl (by exact hR3 _) ?_; rintro _ _ ⟨rfl, rfl⟩)
            | refine WpOps.nil ?_
            | refine WpA.ret ?_
            | refine WpA.skip ?_
            | refine WpA.condF rfl ?_
          exact retK.ok («as» := [.bool true]) (by kernel_rfl) (by kernel_rfl) rfl .bool
        · rcases more_no hbn one (by rw [hee]; exact he0) with h | h | ⟨h, h2⟩
          · rw [hee] at h; subst h
            repeat' first
              | refine WpA.seq ?_
              | refine WpA.region ?_
              | refine WpOps.op _ rfl rfl rfl rfl rfl ?_
              | refine WpOps.store rfl rfl rfl rfl rfl rfl rfl rfl rfl rfl ?_
              | refine WpOps.skip rfl rfl rfl ?_
              | (refine WpOps.call rfl rfl rfl rfl rfl (by exact hMt3 _ _) ?_; rintro _ _ ⟨rfl, rfl⟩)
              | refine WpOps.nil ?_
              | refine WpA.ret ?_
              | refine WpA.condT rfl ?_
            exact retK.ok («as» := [.bool true]) (by kernel_rfl) (by kernel_rfl) rfl .bool
          · rw [hee] at h; subst h
            repeat' first
              | refine WpA.seq ?_
              | refine WpA.region ?_
              | refine WpOps.op _ rfl rfl rfl rfl rfl ?_
              | refine WpOps.store rfl rfl rfl rfl rfl rfl rfl rfl rfl rfl ?_
              | refine WpOps.skip rfl rfl rfl ?_
              | (refine WpOps.call rfl rfl rfl rfl rfl (by exact hMt3 _ _) ?_; rintro _ _ ⟨rfl, rfl⟩)
              | refine WpOps.nil ?_
              | refine WpA.ret ?_
              | refine WpA.condT rfl ?_
            exact retK.ok («as» := [.bool true]) (by kernel_rfl) (by kernel_rfl) rfl .bool
          · rw [hee] at h; subst h
            have hc0 : c = 0 := by rw [← hc, findE, if_pos h2]
            subst hc0
            repeat' first
              | refine WpA.seq ?_
              | refine WpA.region ?_
              | refine WpOps.op _ rfl rfl rfl rfl rfl ?_
              | refine WpOps.store rfl rfl rfl rfl rfl rfl rfl rfl rfl rfl ?_
              | (refine WpOps.call rfl rfl rfl rfl rfl (by exact hMt3 _ _) ?_; rintro _ _ ⟨rfl, rfl⟩)
              | refine WpOps.nil ?_
              | refine WpA.ret ?_
              | refine WpA.condT rfl ?_
            exact retK.ok («as» := [.bool true]) (by kernel_rfl) (by kernel_rfl) rfl .bool
    · have r3 : (bif false then true else decide (i < 0)) = false → (bif false then true else decide (i ≥ ((nrows fs).length : Nat))) = false → False := fun h1 h2 => by
        simp only [cond_false, decide_eq_false_iff_not, hlen] at h1 h2
        omega
      repeat' first
        | exact absurd (by assumption) q1
        | exact absurd (by assumption) q2
        | exact absurd (by assumption) q3
        | exact (r3 (by assumption) (by assumption)).elim
        | refine WpA.seq ?_
        | refine WpA.region ?_
        | refine WpOps.op _ rfl rfl rfl rfl rfl ?_
        | refine WpOps.box _ rfl rfl rfl rfl rfl ?_
        | refine WpOps.alloc _ rfl rfl rfl rfl rfl rfl ?_
        | refine WpOps.store rfl rfl rfl rfl rfl rfl rfl rfl rfl rfl ?_
        | refine WpOps.skip rfl rfl rfl ?_
        | refine WpOps.build _ rfl rfl rfl rfl rfl ?_
        | (refine WpOps.call rfl rfl rfl rfl rfl (by exact hA _) ?_; rintro _ _ ⟨rfl, rfl⟩)
        | (refine WpOps.call rfl rfl rfl rfl rfl (by exact hG _) ?_; rintro _ _ ⟨rfl, rfl⟩)
        | (refine WpOps.call rfl rfl rfl rfl rfl (by exact hM _) ?_; rintro _ _ ⟨rfl, rfl⟩)
        | refine WpOps.gsplit _ rfl rfl rfl (fun h => ?_) (fun h => ?_)
        | refine WpOps.nil ?_
        | refine WpA.ret ?_
        | refine WpA.skip ?_
        | refine WpA.condT rfl ?_
        | refine WpA.condF rfl ?_
        | refine WpA.cond _ rfl (fun h => ?_) (fun h => ?_)
      all_goals exact retK.ok («as» := [.bool true]) (by kernel_rfl) (by kernel_rfl) rfl .bool
  · obtain ⟨c, hc⟩ : ∃ c, makeE 0 5 fs = c := ⟨_, rfl⟩
    rw [hc] at hM he
    have k1 : ¬ ((c != 0) = false) := by simpa using he
    repeat' first
      | exact absurd (by assumption) k1
      | exact absurd (by assumption) q1
      | exact absurd (by assumption) q2
      | exact absurd (by assumption) q3
      | refine WpA.seq ?_
      | refine WpA.region ?_
      | refine WpOps.op _ rfl rfl rfl rfl rfl ?_
      | refine WpOps.box _ rfl rfl rfl rfl rfl ?_
      | refine WpOps.alloc _ rfl rfl rfl rfl rfl rfl ?_
      | refine WpOps.store rfl rfl rfl rfl rfl rfl rfl rfl rfl rfl ?_
      | refine WpOps.skip rfl rfl rfl ?_
      | refine WpOps.build _ rfl rfl rfl rfl rfl ?_
      | (refine WpOps.call rfl rfl rfl rfl rfl (by exact hA _) ?_; rintro _ _ ⟨rfl, rfl⟩)
      | (refine WpOps.call rfl rfl rfl rfl rfl (by exact hG _) ?_; rintro _ _ ⟨rfl, rfl⟩)
      | (refine WpOps.call rfl rfl rfl rfl rfl (by exact hM _) ?_; rintro _ _ ⟨rfl, rfl⟩)
      | refine WpOps.gsplit _ rfl rfl rfl (fun h => ?_) (fun h => ?_)
      | refine WpOps.nil ?_
      | refine WpA.ret ?_
      | refine WpA.skip ?_
      | refine WpA.condT rfl ?_
      | refine WpA.condF rfl ?_
    all_goals exact retK.ok («as» := [.bool true]) (by kernel_rfl) (by kernel_rfl) rfl .bool
end Go.Gp.Tryd
