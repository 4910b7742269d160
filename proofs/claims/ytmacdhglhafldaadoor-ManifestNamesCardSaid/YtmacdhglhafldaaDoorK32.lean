/- Part of a proof: GdX6, GdX7 -/
import Derived.Test.YtmacdhglhafldaaDoorK17
import Derived.Test.YtmacdhglhafldaaDoorK31

/- The law ManifestChanges: its walk. -/
namespace Go.Gp.Tryd
open Go.Proofs
set_option linter.unusedVariables false
set_option linter.unusedSimpArgs false
set_option maxHeartbeats 4000000
set_option maxRecDepth 100000

theorem flat_set1 {α : Type} (z : Nat) : ∀ (rs : List (List α)) (i k : Nat) (v : α), (∀ x ∈ rs, x.length = z) → (hi : i < rs.length) → k < z → rs.flatten.set (i * z + k) v = (rs.set i (rs[i].set k v)).flatten
  | [], _, _, _, _, h, _ => by cases h
  | x :: rs, 0, k, v, hz, _, hk => by
    have hx := hz x List.mem_cons_self
    rw [Nat.zero_mul, Nat.zero_add, List.flatten_cons, List.set_append_left _ _ (by omega), List.set_cons_zero, List.flatten_cons]
    rfl
  | x :: rs, i + 1, k, v, hz, hi, hk => by
    have hx := hz x List.mem_cons_self
    have ih := flat_set1 z rs i k v (fun y hy => hz y (List.mem_cons_of_mem _ hy)) (by simpa using hi) hk
    have e1 : (i + 1) * z + k = x.length + (i * z + k) := by rw [hx, Nat.succ_mul, Nat.add_comm (i * z) z, Nat.add_assoc]
    rw [e1, List.flatten_cons, List.set_append_right _ _ (by omega), Nat.add_sub_cancel_left, List.set_cons_succ, List.flatten_cons, ih]
    rfl
theorem put_bytes {fs : List NFile} {i : Nat} (hi : i < fs.length) (c : List UInt8) : putA (nrows fs).flatten (i * 2 + 1) [.sl .no 1 (c.map byteRow)] = (nrows (fs.set i ⟨fs[i].name, c⟩)).flatten := by
  have hl : i < (nrows fs).length := by rw [nrows_len]; exact hi
  show (nrows fs).flatten.set (i * 2 + 1) _ = _
  rw [flat_set1 2 _ i 1 _ (nrows_two fs) hl (by decide), ← nrows_set]
  congr 2
  show ((nrows fs)[i]).set 1 _ = _
  have : (nrows fs)[i] = fs[i].row := by simp [nrows]
  rw [this]; rfl
theorem nrows_append (xs ys : List NFile) : nrows (xs ++ ys) = nrows xs ++ nrows ys := List.map_append
theorem nrows_take (xs : List NFile) (k : Nat) : (nrows xs).take k = nrows (xs.take k) := by rw [nrows, nrows, List.map_take]
theorem nrows_drop (xs : List NFile) (k : Nat) : (nrows xs).drop k = nrows (xs.drop k) := by rw [nrows, nrows, List.map_drop]
/-- A report with one name. -/
theorem oneRep_A (r s : Rep) (x : AV) (hx : Sub x s.av) (H : List AObj) (h1 : r.miss.length ≤ 1125899906842624) (h2 : r.wrong.length ≤ 1125899906842624) (h3 : r.extra.length ≤ 1125899906842624) :
    CallsA E 18 [r.av, x] H (Is H (.bool (sameRep r s))) :=
  CallsA.subL (vs := [r.av, s.av]) ⟨Sub.refl _, hx, trivial⟩ (sameReport_A r s H h1 h2 h3)
theorem sameRep_refl (r : Rep) : sameRep r r = true := by simp [sameRep]

theorem changes_A (fs : List NFile) (i : Int) (one : NFile) (ct : List UInt8) (H : List AObj) (hl : fs.length ≤ 1000000000000000) (hi : -9223372036854775808 ≤ i ∧ i ≤ 9223372036854775807) :
    CallsA E 7 [.sl .no 2 (nrows fs), .int .i64 i, .agg one.row, .sl .no 1 (ct.map byteRow)] H (Is H (.bool true)) := by
  have hlen := nrows_len fs
  have hctl : (ct.map byteRow).length = ct.length := List.length_map _
  have honl : (one.bytes.map byteRow).length = one.bytes.length := List.length_map _
  have hA := fun H => alive_A H
  have hG := fun H => greatFiles_A fs H hl
  refine .enter Tryd.func7 rfl rfl rfl 184 Tryd.ntmps7 (Nat.le_of_ble_eq_true rfl) ?_
  cases hg : greatFs fs with
  | true =>
    rw [hg] at hG
    repeat' first
      | refine WpA.seq ?_
      | refine WpA.region ?_
      | refine WpOps.op _ rfl rfl rfl rfl rfl ?_
      | refine WpOps.box _ rfl rfl rfl rfl rfl ?_
      | refine WpOps.skip rfl rfl rfl ?_
      | (refine WpOps.call rfl rfl rfl rfl rfl (by exact hA _) ?_; rintro _ _ ⟨rfl, rfl⟩)
      | (refine WpOps.call rfl rfl rfl rfl rfl (by exact hG _) ?_; rintro _ _ ⟨rfl, rfl⟩)
      | refine WpOps.nil ?_
      | refine WpA.ret ?_
      | refine WpA.condT rfl ?_
    all_goals exact retK.ok («as» := [.bool true]) (by kernel_rfl) (by kernel_rfl) rfl .bool
  | false =>
  rw [hg] at hG
  by_cases hsm : 200 < one.name.length ∨ 300 < one.bytes.length ∨ 300 < ct.length
  · obtain ⟨b1, hb1⟩ : ∃ b, decide ((one.name.length : Int) > 200) = b := ⟨_, rfl⟩
    have kx : (bif false then true else decide ((one.name.length : Int) > 200)) = false → (bif false then true else decide (((one.bytes.map byteRow).length : Int) > 300)) = false → (bif false then true else decide (((ct.map byteRow).length : Int) > 300)) = false → False := fun h1 h2 h3 => by
      simp only [cond_false, decide_eq_false_iff_not, hctl, honl] at h1 h2 h3
      omega
    repeat' first
      | exact (kx (by assumption) (by assumption) (by assumption)).elim
      | refine WpA.seq ?_
      | refine WpA.region ?_
      | refine WpOps.op _ rfl rfl rfl rfl rfl ?_
      | refine WpOps.box _ rfl rfl rfl rfl rfl ?_
      | refine WpOps.skip rfl rfl rfl ?_
      | (refine WpOps.call rfl rfl rfl rfl rfl (by exact hA _) ?_; rintro _ _ ⟨rfl, rfl⟩)
      | (refine WpOps.call rfl rfl rfl rfl rfl (by exact hG _) ?_; rintro _ _ ⟨rfl, rfl⟩)
      | refine WpOps.gsplit _ rfl rfl rfl (fun h => ?_) (fun h => ?_)
      | refine WpOps.nil ?_
      | refine WpA.ret ?_
      | refine WpA.condT rfl ?_
    all_goals exact retK.ok («as» := [.bool true]) (by kernel_rfl) (by kernel_rfl) rfl .bool
  have q1 : ¬ ((bif false then true else decide ((one.name.length : Int) > 200)) = true) := by simp; omega
  have q2 : ¬ ((bif false then true else decide (((one.bytes.map byteRow).length : Int) > 300)) = true) := by simp; omega
  have q3 : ¬ ((bif false then true else decide (((ct.map byteRow).length : Int) > 300)) = true) := by simp; omega
  obtain ⟨hb1, hb2⟩ := greatFs_false hg
  have hM := fun H => make_A 1 0 5 fs H (by omega) (fun f hf => Nat.le_trans (hb2 f hf).2 (by decide))
  by_cases he : makeE 0 5 fs = 0
  · rw [he] at hM
    have hbn := (makeE_win he).2
    have hn := (byNameE_ok hbn).2.2
    by_cases hil : 0 ≤ i ∧ i.toNat < fs.length
    · obtain ⟨h0i, hil⟩ := hil
      obtain ⟨m, hm⟩ : ∃ m, makeM 1 0 5 fs = m := ⟨_, rfl⟩
      have hml : m.fs.length = fs.length := by rw [← hm, make_ok he]; exact makeFs_len fs
      rw [hm] at hM
      have r1 : ¬ ((bif false then true else decide (i < 0)) = true) := by simp; omega
      have r2 : ¬ ((bif false then true else decide (i ≥ ((nrows fs).length : Nat))) = true) := by simp; omega
      repeat' first
        | exact absurd (by assumption) q1
        | exact absurd (by assumption) q2
        | exact absurd (by assumption) q3
        | exact absurd (by assumption) r1
        | exact absurd (by assumption) r2
        | refine WpA.drawI (id := 7) [] [0, 0, 0, 0, 3, 0, 0, 0, 0, 3, 0] (by kernel_rfl) (by kernel_rfl) ?_
        | refine WpA.seq ?_
        | refine WpA.region ?_
        | refine WpOps.op _ rfl rfl rfl rfl rfl ?_
        | refine WpOps.box _ rfl rfl rfl rfl rfl ?_
        | refine WpOps.alloc _ rfl rfl rfl rfl rfl rfl ?_
        | refine WpOps.store rfl rfl rfl rfl rfl rfl rfl rfl rfl rfl ?_
        | refine WpOps.build _ rfl rfl rfl rfl rfl ?_
        | (refine WpOps.call rfl rfl rfl rfl rfl (by exact hA _) ?_; rintro _ _ ⟨rfl, rfl⟩)
        | (refine WpOps.call rfl rfl rfl rfl rfl (by exact hG _) ?_; rintro _ _ ⟨rfl, rfl⟩)
        | (refine WpOps.call rfl rfl rfl rfl rfl (by exact hM _) ?_; rintro _ _ ⟨rfl, rfl⟩)
        | refine WpOps.gsplit _ rfl rfl rfl (fun h => ?_) (fun h => ?_)
        | refine WpOps.nil ?_
        | refine WpA.skip ?_
        | refine WpA.condF rfl ?_
        | refine WpA.cond _ rfl (fun h => ?_) (fun h => ?_)
      have h0w : 0 ≤ IntKind.i64.wrap (i + 1) := by rw [wrap64 (by omega) (by omega)]; omega
      have h1w : (IntKind.i64.wrap (i + 1)).toNat = i.toNat + 1 := by rw [wrap64 (by omega) (by omega)]; omega
      have hle1 : i.toNat ≤ (nrows fs).length := by rw [hlen]; omega
      have hle2 : i.toNat + 1 ≤ (nrows fs).length := by rw [hlen]; omega
      have hfit1 : ((([] : List (List AV)).length + (((nrows fs).take i.toNat).drop 0).length) * 40) ≤ 140737488355328 := by
        rw [List.drop_zero, List.length_take, hlen, List.length_nil]; omega
      have hone1 : ∀ y ∈ ((nrows fs).take i.toNat).drop 0, ∀ a ∈ y, a.one = true := fun y hy => nrows_one fs y (List.mem_of_mem_take (List.mem_of_mem_drop hy))
      have hone2 : ∀ y ∈ ((nrows fs).take (nrows fs).length).drop (i.toNat + 1), ∀ a ∈ y, a.one = true := fun y hy => nrows_one fs y (List.mem_of_mem_take (List.mem_of_mem_drop hy))
      have hraw : [] ++ ((nrows fs).take i.toNat).drop 0 ++ ((nrows fs).take (nrows fs).length).drop (i.toNat + 1) = nrows (fs.take i.toNat ++ fs.drop (i.toNat + 1)) := by
        rw [List.nil_append, List.drop_zero, List.take_length, nrows_take, nrows_drop, ← nrows_append]
      have hfit2 : (([] ++ ((nrows fs).take i.toNat).drop 0).length + (((nrows fs).take (nrows fs).length).drop (i.toNat + 1)).length) * 40 ≤ 140737488355328 := by
        rw [← List.length_append, hraw, nrows_len, List.length_append, List.length_take, List.length_drop]; omega
      repeat' first
        | (refine LexH.buildSlice [] rfl rfl rfl rfl rfl rfl rfl rfl rfl rfl rfl rfl ?_)
        | (refine LexH.p0 rfl rfl rfl rfl (fun H0 => .slice 0 i.toNat rfl rfl rfl rfl rfl ⟨_, _, rfl, h0i, rfl⟩ (Nat.zero_le _) hle1) ?_)
        | (refine LexH.p0 rfl rfl rfl rfl (fun H0 => .slice (i.toNat + 1) (nrows fs).length rfl rfl rfl rfl ⟨_, _, rfl, h0w, h1w⟩ rfl hle2 (Nat.le_refl _)) ?_)
        | (refine LexH.appN3 rfl rfl rfl rfl rfl rfl rfl rfl (fun k h => by cases h) rfl rfl rfl rfl rfl rfl hone1 hfit1 ?_)
        | (refine LexH.appR3 rfl rfl rfl rfl rfl rfl rfl rfl (fun k h => by cases h) rfl rfl rfl rfl rfl rfl hone2 hfit2 (fun k hk => by cases hk) ?_)
        | refine WpA.seq ?_
        | refine WpA.region ?_
        | refine WpOps.op _ rfl rfl rfl rfl rfl ?_
        | refine LexH.op0 _ rfl rfl rfl rfl rfl (fun _ => rfl) ?_
        | refine LexH.nil ?_
      have hbk : ∀ f ∈ fs, f.bytes.length ≤ 1000000000 := fun f hf => Nat.le_trans (hb2 f hf).2 (by decide)
      have hF := fun H => findM_A (v := 1) he one.name H
      rw [hm] at hF
      obtain ⟨g1, g2⟩ := less_law (v := 1) he hil
      rw [hm] at g1 g2
      have hMt1 : ∀ j X, CallsA E 15 [m.av .no, .sl (.row H.length j) 2 ([] ++ ((nrows fs).take i.toNat).drop 0 ++ ((nrows fs).take (nrows fs).length).drop (i.toNat + 1))] X (Is X (.tup [Rep.av ⟨[fs[i.toNat].name], [], []⟩, .int .i64 0])) := fun j X => by
        have := match_A m (fs.take i.toNat ++ fs.drop (i.toNat + 1)) X (by omega) (by rw [List.length_append, List.length_take, List.length_drop]; omega) (fun f hf => hbk f ((erase_sub fs i.toNat).subset hf))
        rw [g1, g2, ← hraw] at this
        exact CallsA.subL (vs := [m.av .no, .sl .no 2 _]) ⟨Sub.refl _, Sub.untag, trivial⟩ this
      have hR1 : ∀ X, CallsA E 18 [Rep.av ⟨[fs[i.toNat].name], [], []⟩, .agg [.sl .full 1 (strs [fs[i.toNat].name]), .sl .full 0 [], .sl .full 0 []]] X (Is X (.bool true)) := fun X => by
        have := oneRep_A ⟨[fs[i.toNat].name], [], []⟩ ⟨[fs[i.toNat].name], [], []⟩ (.agg [.sl .full 1 (strs [fs[i.toNat].name]), .sl .full 0 [], .sl .full 0 []]) (Sub.agg (vs := [.sl .no 1 (strs [fs[i.toNat].name]), .sl .no 1 (strs []), .sl .no 1 (strs [])]) ⟨Sub.untag, Sub.empty, Sub.empty, trivial⟩) X (Nat.le_of_ble_eq_true rfl) (Nat.le_of_ble_eq_true rfl) (Nat.le_of_ble_eq_true rfl)
        rw [sameRep_refl] at this
        exact this
      have hgi : (nrows fs)[i.toNat]? = some (fs[i.toNat]).row := by rw [nrows, List.getElem?_map, List.getElem?_eq_getElem hil]; rfl
      have hii : i < ((nrows fs).length : Nat) := by rw [hlen]; omega
      have hne : nrows fs ≠ [] := by rw [← List.length_pos_iff, hlen]; omega
      repeat' first
        | (refine LexA.elem _ rfl rfl rfl rfl rfl rfl rfl rfl rfl h0i hgi ?_)
        | (refine LexA.buildSlice _ rfl rfl rfl rfl rfl rfl rfl rfl rfl rfl rfl ?_)
        | refine WpA.seq ?_
        | refine WpA.region ?_
        | refine WpOps.op _ rfl rfl rfl rfl rfl ?_
        | refine WpOps.alloc _ rfl rfl rfl rfl rfl rfl ?_
        | refine WpOps.store rfl rfl rfl rfl rfl rfl rfl rfl rfl rfl ?_
        | (refine WpOps.call rfl rfl rfl rfl rfl (by exact hMt1 _ _) ?_; rintro _ _ ⟨rfl, rfl⟩)
        | (refine WpOps.buildSlice [] rfl rfl rfl rfl rfl rfl rfl rfl rfl rfl rfl ?_)
        | refine WpOps.nil ?_
        | refine WpA.skip ?_
        | refine WpA.condF rfl ?_
        | refine WpA.draw (by kernel_rfl) ?_
        | refine LexA.op _ rfl rfl rfl rfl rfl ?_
        | refine LexA.build _ rfl rfl rfl rfl rfl ?_
        | refine LexA.call rfl rfl rfl rfl rfl (by exact hR1 _) ?_
        | refine LexA.nil ?_
      have hfit3 : fs.length * 40 ≤ 140737488355328 := by omega
      have hfl0 : ∀ l : List NFile, (nrows l).flatten.length = l.length * 2 := fun l => by rw [flat_length 2 _ (nrows_two l), nrows_len]
      have hle3 : Nat.ble (0 + i.toNat * 2 + 1 + 1) (nrows fs).flatten.length = true := by rw [hfl0]; simp; omega
      refine WpOps.p1 rfl rfl rfl (.appO (ys := nrows fs) rfl rfl rfl rfl (fun k h => by cases h) rfl rfl rfl hne ?_) ?_
      · rw [hlen]; exact hfit3
      refine WpOps.op _ rfl rfl rfl rfl rfl ?_
      refine WpOps.nil ?_
      refine WpA.seq ?_
      refine WpA.region ?_
      repeat' first
        | (refine WpOps.elemO rfl rfl rfl rfl rfl rfl rfl rfl h0i hii ?_)
        | (refine WpOps.store rfl rfl rfl rfl rfl rfl rfl rfl rfl hle3 ?_)
        | refine WpOps.op _ rfl rfl rfl rfl rfl ?_
        | refine WpOps.nil ?_
      obtain ⟨nm, hnm⟩ : ∃ nm, fs[i.toNat].name = nm := ⟨_, rfl⟩
      obtain ⟨bs, hbs⟩ : ∃ bs, fs[i.toNat].bytes = bs := ⟨_, rfl⟩
      obtain ⟨s1, s2⟩ := set_law (v := 1) he hil ct
      have hput : putA (nrows fs).flatten (0 + i.toNat * 2 + 1) [.sl .no 1 (ct.map byteRow)] = (nrows (fs.set i.toNat ⟨fs[i.toNat].name, ct⟩)).flatten := by rw [Nat.zero_add]; exact put_bytes hil ct
      have hg2 : ∀ f ∈ fs.set i.toNat ⟨fs[i.toNat].name, ct⟩, f.bytes.length ≤ 1000000000 := fun f hf => by
        rcases List.mem_or_eq_of_mem_set hf with hf | rfl
        · exact hbk f hf
        · show ct.length ≤ _; omega
      have hl2 : (fs.set i.toNat ⟨fs[i.toNat].name, ct⟩).length = fs.length := List.length_set
      have hsf := fun X => sum_A bs (by have := (hb2 _ (List.getElem_mem hil)).2; rw [hbs] at this; omega) X
      have hsc := fun X => sum_A ct (by omega) X
      rw [hm] at s1 s2
      rw [hnm] at hput hg2 hl2 s1 s2
      rw [hbs] at s2
      obtain ⟨gs, hgs⟩ : ∃ gs, fs.set i.toNat ⟨nm, ct⟩ = gs := ⟨_, rfl⟩
      obtain ⟨q, hq⟩ : ∃ q, heq ⟨nm, sha ct⟩ ⟨nm, sha bs⟩ = q := ⟨_, rfl⟩
      rw [hgs] at hput hg2 hl2 s1 s2
      rw [hq] at s2
      have hMt2 := fun X => match_A m gs X (by omega) (by omega) hg2
      rw [s1, s2] at hMt2
      have hEq : EqS E (.inl 61) [.agg (hashA (sha ct))] [.agg (hashA (sha bs))] q := by
        have := eqHash ⟨nm, sha ct⟩ ⟨nm, sha bs⟩
        rw [hq] at this
        exact this
      obtain ⟨wv, hwv⟩ : ∃ wv, (bif q then AV.sl .full 0 [] else AV.sl .full 1 (strs [nm])) = wv := ⟨_, rfl⟩
      have hR2 : ∀ X, CallsA E 18 [Rep.av ⟨[], if q = true then [] else [nm], []⟩, .agg [.sl .full 0 [], wv, .sl .full 0 []]] X (Is X (.bool true)) := fun X => by
        have := oneRep_A ⟨[], if q = true then [] else [nm], []⟩ ⟨[], if q = true then [] else [nm], []⟩ (.agg [.sl .full 0 [], wv, .sl .full 0 []]) (Sub.agg (vs := [.sl .no 1 (strs []), .sl .no 1 (strs (if q = true then [] else [nm])), .sl .no 1 (strs [])]) ⟨Sub.empty, by rw [← hwv]; cases q; exact Sub.untag; exact Sub.empty, Sub.empty, trivial⟩) X (Nat.le_of_ble_eq_true rfl) (by cases q <;> exact Nat.le_of_ble_eq_true rfl) (Nat.le_of_ble_eq_true rfl)
        rw [sameRep_refl] at this
        exact this
      have hgi2 : (nrows fs)[i.toNat]? = some [.str nm, .sl .no 1 (bs.map byteRow)] := by rw [hgi, ← hnm, ← hbs]; rfl
      have hch : chunkA 2 (nrows fs).length ((nrows gs).flatten.drop 0) = nrows gs := by
        rw [List.drop_zero, hlen, ← hl2, ← nrows_len gs]; exact chunk_flat 2 _ (nrows_two gs)
      show WpA E none 184 _ _ _ (H ++ [.cells one.row, .cells (m.cells .no), .tail ([] ++ ((nrows fs).take i.toNat).drop 0 ++ ((nrows fs).take (nrows fs).length).drop (i.toNat + 1)).length 2, .cells [.sl .no 1 (strs [fs[i.toNat].name]), .sl .no 1 [], .sl .no 1 []], .cells (putA (nrows fs).flatten (0 + i.toNat * 2 + 1) [.sl .no 1 (ct.map byteRow)])])
      refine WpA.weak (T := [(0, .sl .no 2 (nrows fs)), (1, .int .i64 i), (3, .sl .no 1 (ct.map byteRow)), (6, .ptr H.length 0 0), (9, .bool true), (10, .ptr H.length 1 0), (13, .ptr H.length 3 0), (15, .os H.length 4 0 2 (nrows fs).length)]) ⟨rfl, rfl, rfl, rfl, rfl, rfl, rfl, rfl, trivial⟩ ?_
      obtain ⟨N, hN⟩ : ∃ N, ([] ++ ((nrows fs).take i.toNat).drop 0 ++ ((nrows fs).take (nrows fs).length).drop (i.toNat + 1)).length = N := ⟨_, rfl⟩
      rw [hput, hN, hnm]
      refine WpA.freezeP (d := 6) (j := 0) rfl rfl ?_
      refine WpA.freezeS (d := 15) (j := 4) rfl rfl (by rw [hfl0, hl2, hlen]; omega) ?_
      rw [hch]
      refine WpA.seq ?_
      repeat' first
        | refine WpA.region ?_
        | refine WpOps.op _ rfl rfl rfl rfl rfl ?_
        | refine WpOps.store rfl rfl rfl rfl rfl rfl rfl rfl rfl rfl ?_
        | (refine WpOps.call rfl rfl rfl rfl rfl (by exact hMt2 _) ?_; rintro _ _ ⟨rfl, rfl⟩)
        | refine WpOps.nil ?_
      refine WpA.seq ?_
      repeat' first
        | refine WpA.region ?_
        | refine WpOps.alloc _ rfl rfl rfl rfl rfl rfl ?_
        | refine WpOps.store rfl rfl rfl rfl rfl rfl rfl rfl rfl rfl ?_
        | refine WpOps.build _ rfl rfl rfl rfl rfl ?_
        | refine WpOps.nil ?_
      refine WpA.seq ?_
      refine WpA.joinS [(0, .sl .no 2 (nrows fs)), (1, .int .i64 i), (3, .sl .no 1 (ct.map byteRow)), (6, .rp one.row), (9, .bool true), (10, .ptr H.length 1 0), (13, .ptr H.length 3 0), (14, .int .i64 0), (16, .ptr H.length 5 0)] (H ++ [.dead, .cells (m.cells .no), .tail N 2, .cells [.sl .no 1 [], .sl .no 1 (strs (if q = true then [] else [nm])), .sl .no 1 []], .dead, .cells [.sl .full 0 [], wv, .sl .full 0 []]]) ?_ ?_
      · cases q with
        | true =>
          subst hwv
          repeat' first
            | (refine LexA.elem _ rfl rfl rfl rfl rfl rfl rfl rfl rfl h0i hgi2 ?_)
            | (refine LexA.neA rfl rfl rfl rfl rfl rfl keyHash (by exact hEq) ?_)
            | refine WpA.seq ?_
            | refine WpA.skip ?_
            | refine WpA.condF rfl ?_
            | refine WpA.draw (by kernel_rfl) ?_
            | refine LexA.op _ rfl rfl rfl rfl rfl ?_
            | refine LexA.call rfl rfl rfl rfl rfl (by exact hsc _) ?_
            | refine LexA.call rfl rfl rfl rfl rfl (by exact hsf _) ?_
            | refine LexA.nil ?_
          all_goals exact ⟨⟨rfl, rfl, rfl, rfl, rfl, rfl, rfl, rfl, rfl, trivial⟩, rfl⟩
        | false =>
          subst hwv
          repeat' first
            | (refine LexA.elem _ rfl rfl rfl rfl rfl rfl rfl rfl rfl h0i hgi2 ?_)
            | (refine WpOps.elem _ rfl rfl rfl rfl rfl rfl rfl rfl rfl h0i hgi2 ?_)
            | (refine WpOps.buildSlice _ rfl rfl rfl rfl rfl rfl rfl rfl rfl rfl rfl ?_)
            | (refine LexA.neA rfl rfl rfl rfl rfl rfl keyHash (by exact hEq) ?_)
            | refine WpA.seq ?_
            | refine WpA.region ?_
            | refine WpOps.op _ rfl rfl rfl rfl rfl ?_
            | refine WpOps.store rfl rfl rfl rfl rfl rfl rfl rfl rfl rfl ?_
            | refine WpOps.nil ?_
            | refine WpA.condT rfl ?_
            | refine WpA.draw (by kernel_rfl) ?_
            | refine LexA.op _ rfl rfl rfl rfl rfl ?_
            | refine LexA.call rfl rfl rfl rfl rfl (by exact hsc _) ?_
            | refine LexA.call rfl rfl rfl rfl rfl (by exact hsf _) ?_
            | refine LexA.nil ?_
          all_goals exact ⟨⟨rfl, rfl, rfl, rfl, rfl, rfl, rfl, rfl, rfl, trivial⟩, rfl⟩
      · have hone3 : ∀ y ∈ nrows fs, ∀ a ∈ y, a.one = true := nrows_one fs
        have hone4 : ∀ y ∈ [one.row], ∀ a ∈ y, a.one = true := nrows_one [one]
        have hf3 : (([] : List (List AV)).length + (nrows fs).length) * 40 ≤ 140737488355328 := by rw [hlen, List.length_nil]; omega
        have hf4 : (([] ++ nrows fs).length + [one.row].length) * 40 ≤ 140737488355328 := by rw [List.nil_append, hlen, List.length_singleton]; omega
        obtain ⟨c, hc⟩ : ∃ c, findE fs one.name = c := ⟨_, rfl⟩
        rw [hc] at hF
        repeat' first
          | refine WpA.drawI (id := 20) [] [0, 0, 3, 0, 0, 3, 0] (by kernel_rfl) (by kernel_rfl) ?_
          | (refine LexH.buildSlice [] rfl rfl rfl rfl rfl rfl rfl rfl rfl rfl rfl rfl ?_)
          | (refine LexH.appN3 (ys := nrows fs) rfl rfl rfl rfl rfl rfl rfl rfl (fun k h => by cases h) rfl rfl rfl rfl rfl rfl hone3 hf3 ?_)
          | (refine LexH.appR3 (xs := [] ++ nrows fs) (ys := [one.row]) rfl rfl rfl rfl rfl rfl rfl rfl (fun k h => by cases h) rfl rfl rfl rfl rfl rfl hone4 hf4 (fun k hk => by cases hk) ?_)
          | refine WpA.seq ?_
          | refine WpA.region ?_
          | refine WpOps.op _ rfl rfl rfl rfl rfl ?_
          | refine WpOps.alloc _ rfl rfl rfl rfl rfl rfl ?_
          | refine WpOps.store rfl rfl rfl rfl rfl rfl rfl rfl rfl rfl ?_
          | (refine WpOps.call rfl rfl rfl rfl rfl (by exact hR2 _) ?_; rintro _ _ ⟨rfl, rfl⟩)
          | (refine WpOps.call rfl rfl rfl rfl rfl (by exact hF _) ?_; rintro _ _ ⟨rfl, rfl⟩)
          | refine WpOps.nil ?_
          | refine WpA.skip ?_
          | refine WpA.condF rfl ?_
          | refine LexH.op0 _ rfl rfl rfl rfl rfl (fun _ => rfl) ?_
          | refine LexH.buildSlice _ rfl rfl rfl rfl rfl rfl rfl rfl rfl rfl rfl rfl ?_
          | refine LexH.nil ?_
        obtain ⟨r, hr⟩ : ∃ r, matchR m (fs ++ [one]) = r := ⟨_, rfl⟩
        have hraw3 : [] ++ nrows fs ++ [one.row] = nrows (fs ++ [one]) := by rw [List.nil_append, nrows_append]; rfl
        have hmE : matchE m (fs ++ [one]) = byNameE (fs ++ [one]) := by rw [← hm]; exact matchE_make he _
        have hMt3 : ∀ j X, CallsA E 15 [m.av .no, .sl (.row H.length j) 2 ([] ++ nrows fs ++ [one.row])] X (Is X (.tup [r.av, .int .i64 (byNameE (fs ++ [one]))])) := fun j X => by
          have := match_A m (fs ++ [one]) X (by omega) (by rw [List.length_append, List.length_singleton]; omega) (fun f hf => by
            rcases List.mem_append.1 hf with hf | hf
            · exact hbk f hf
            · have := List.mem_singleton.1 hf; subst this; omega)
          rw [hr, hmE, ← hraw3] at this
          exact CallsA.subL (vs := [m.av .no, .sl .no 2 _]) ⟨Sub.refl _, Sub.untag, trivial⟩ this
        obtain ⟨e, hee⟩ : ∃ e, byNameE (fs ++ [one]) = e := ⟨_, rfl⟩
        rw [hee] at hMt3
        by_cases he0 : e = 0
        · subst he0
          obtain ⟨w1, w2⟩ := more_ok (v := 1) he one hee
          rw [hm, hr] at w2
          have hc6 : c = 6 := by rw [← hc, findE, if_neg w1]
          subst hc6
          have hR3 : ∀ X, CallsA E 18 [r.av, .agg [.sl .full 0 [], .sl .full 0 [], .sl .full 1 (strs [one.name])]] X (Is X (.bool true)) := fun X => by
            have := oneRep_A r r (.agg [.sl .full 0 [], .sl .full 0 [], .sl .full 1 (strs [one.name])]) (by rw [w2]; exact Sub.agg (vs := [.sl .no 1 (strs []), .sl .no 1 (strs []), .sl .no 1 (strs [one.name])]) ⟨Sub.empty, Sub.empty, Sub.untag, trivial⟩) X (by rw [w2]; exact Nat.le_of_ble_eq_true rfl) (by rw [w2]; exact Nat.le_of_ble_eq_true rfl) (by rw [w2]; exact Nat.le_of_ble_eq_true rfl)
            rw [sameRep_refl] at this
            exact this
          repeat' first
            | (refine WpOps.buildSlice _ rfl rfl rfl rfl rfl rfl rfl rfl rfl rfl rfl ?_)
            | refine WpA.seq ?_
            | refine WpA.region ?_
            | refine WpOps.op _ rfl rfl rfl rfl rfl ?_
            | refine WpOps.store rfl rfl rfl rfl rfl rfl rfl rfl rfl rfl ?_
            | refine WpOps.build _ rfl rfl rfl rfl rfl ?_
            | (refine WpOps.call rfl rfl rfl rfl rfl (by exact hMt3 _ _) ?_; rintro _ _ ⟨rfl, rfl⟩)
            | (refine WpOps.call rfl rfl rfl rfl rfl (by exact hR3 _) ?_; rintro _ _ ⟨rfl, rfl⟩)
            | refine WpOps.nil ?_
            | refine WpA.ret ?_
            | refine WpA.skip ?_
            | refine WpA.condF rfl ?_
          exact retK.ok («as» := [.bool true]) (by kernel_rfl) (by kernel_rfl) rfl .bool
        · rcases more_no hbn one (by rw [hee]; exact he0) with h | h | ⟨h, h2⟩
          · rw [hee] at h; subst h
            repeat' first
              | refine WpA.seq ?_
              | refine WpA.region ?_
              | refine WpOps.op _ rfl rfl rfl rfl rfl ?_
              | refine WpOps.store rfl rfl rfl rfl rfl rfl rfl rfl rfl rfl ?_
              | refine WpOps.skip rfl rfl rfl ?_
              | (refine WpOps.call rfl rfl rfl rfl rfl (by exact hMt3 _ _) ?_; rintro _ _ ⟨rfl, rfl⟩)
              | refine WpOps.nil ?_
              | refine WpA.ret ?_
              | refine WpA.condT rfl ?_
            exact retK.ok («as» := [.bool true]) (by kernel_rfl) (by kernel_rfl) rfl .bool
          · rw [hee] at h; subst h
            repeat' first
              | refine WpA.seq ?_
              | refine WpA.region ?_
              | refine WpOps.op _ rfl rfl rfl rfl rfl ?_
              | refine WpOps.store rfl rfl rfl rfl rfl rfl rfl rfl rfl rfl ?_
              | refine WpOps.skip rfl rfl rfl ?_
              | (refine WpOps.call rfl rfl rfl rfl rfl (by exact hMt3 _ _) ?_; rintro _ _ ⟨rfl, rfl⟩)
              | refine WpOps.nil ?_
              | refine WpA.ret ?_
              | refine WpA.condT rfl ?_
            exact retK.ok («as» := [.bool true]) (by kernel_rfl) (by kernel_rfl) rfl .bool
          · rw [hee] at h; subst h
            have hc0 : c = 0 := by rw [← hc, findE, if_pos h2]
            subst hc0
            repeat' first
              | refine WpA.seq ?_
              | refine WpA.region ?_
              | refine WpOps.op _ rfl rfl rfl rfl rfl ?_
              | refine WpOps.store rfl rfl rfl rfl rfl rfl rfl rfl rfl rfl ?_
              | (refine WpOps.call rfl rfl rfl rfl rfl (by exact hMt3 _ _) ?_; rintro _ _ ⟨rfl, rfl⟩)
              | refine WpOps.nil ?_
              | refine WpA.ret ?_
              | refine WpA.condT rfl ?_
            exact retK.ok («as» := [.bool true]) (by kernel_rfl) (by kernel_rfl) rfl .bool
    · have r3 : (bif false then true else decide (i < 0)) = false → (bif false then true else decide (i ≥ ((nrows fs).length : Nat))) = false → False := fun h1 h2 => by
        simp only [cond_false, decide_eq_false_iff_not, hlen] at h1 h2
        omega
      repeat' first
        | exact absurd (by assumption) q1
        | exact absurd (by assumption) q2
        | exact absurd (by assumption) q3
        | exact (r3 (by assumption) (by assumption)).elim
        | refine WpA.seq ?_
        | refine WpA.region ?_
        | refine WpOps.op _ rfl rfl rfl rfl rfl ?_
        | refine WpOps.box _ rfl rfl rfl rfl rfl ?_
        | refine WpOps.alloc _ rfl rfl rfl rfl rfl rfl ?_
        | refine WpOps.store rfl rfl rfl rfl rfl rfl rfl rfl rfl rfl ?_
        | refine WpOps.skip rfl rfl rfl ?_
        | refine WpOps.build _ rfl rfl rfl rfl rfl ?_
        | (refine WpOps.call rfl rfl rfl rfl rfl (by exact hA _) ?_; rintro _ _ ⟨rfl, rfl⟩)
        | (refine WpOps.call rfl rfl rfl rfl rfl (by exact hG _) ?_; rintro _ _ ⟨rfl, rfl⟩)
        | (refine WpOps.call rfl rfl rfl rfl rfl (by exact hM _) ?_; rintro _ _ ⟨rfl, rfl⟩)
        | refine WpOps.gsplit _ rfl rfl rfl (fun h => ?_) (fun h => ?_)
        | refine WpOps.nil ?_
        | refine WpA.ret ?_
        | refine WpA.skip ?_
        | refine WpA.condT rfl ?_
        | refine WpA.condF rfl ?_
        | refine WpA.cond _ rfl (fun h => ?_) (fun h => ?_)
      all_goals exact retK.ok («as» := [.bool true]) (by kernel_rfl) (by kernel_rfl) rfl .bool
  · obtain ⟨c, hc⟩ : ∃ c, makeE 0 5 fs = c := ⟨_, rfl⟩
    rw [hc] at hM he
    have k1 : ¬ ((c != 0) = false) := by simpa using he
    repeat' first
      | exact absurd (by assumption) k1
      | exact absurd (by assumption) q1
      | exact absurd (by assumption) q2
      | exact absurd (by assumption) q3
      | refine WpA.seq ?_
      | refine WpA.region ?_
      | refine WpOps.op _ rfl rfl rfl rfl rfl ?_
      | refine WpOps.box _ rfl rfl rfl rfl rfl ?_
      | refine WpOps.alloc _ rfl rfl rfl rfl rfl rfl ?_
      | refine WpOps.store rfl rfl rfl rfl rfl rfl rfl rfl rfl rfl ?_
      | refine WpOps.skip rfl rfl rfl ?_
      | refine WpOps.build _ rfl rfl rfl rfl rfl ?_
      | (refine WpOps.call rfl rfl rfl rfl rfl (by exact hA _) ?_; rintro _ _ ⟨rfl, rfl⟩)
      | (refine WpOps.call rfl rfl rfl rfl rfl (by exact hG _) ?_; rintro _ _ ⟨rfl, rfl⟩)
      | (refine WpOps.call rfl rfl rfl rfl rfl (by exact hM _) ?_; rintro _ _ ⟨rfl, rfl⟩)
      | refine WpOps.gsplit _ rfl rfl rfl (fun h => ?_) (fun h => ?_)
      | refine WpOps.nil ?_
      | refine WpA.ret ?_
      | refine WpA.skip ?_
      | refine WpA.condT rfl ?_
      | refine WpA.condF rfl ?_
    all_goals exact retK.ok («as» := [.bool true]) (by kernel_rfl) (by kernel_rfl) rfl .bool
end Go.Gp.Tryd

/- The law ManifestNames: its walk. -/
namespace Go.Gp.Tryd
open Go.Proofs
set_option linter.unusedVariables false
set_option linter.unusedSimpArgs false
set_option maxHeartbeats 4000000
set_option maxRecDepth 100000

theorem decMan_none {b : List UInt8} {o : Oct} (hp : parse 12 b = some (o, [])) (h : seqOk o 128 3 203 = true → ((o.items.drop 3).all fun o => seqOk o 129 2 2) = true → orI (errAt (err3 o) (o.items.drop 3)) (check (manOf o)) ≠ 0) : decMan b = none := by
  unfold decMan decP
  split
  · split
    · rename_i h1; exact absurd h1.1 (by decide)
    · rfl
  · rw [hp]
    by_cases hc : checkP o = 0
    · simp only [if_pos hc]
      rw [if_neg]
      rintro ⟨_, h2, h3, h4⟩
      exact h h2 h3 h4
    · simp only [if_neg hc]
      rw [if_neg]
      rintro ⟨h1, _⟩
      exact absurd h1 (by decide)
def bads : List (List UInt8) := [[], [128, 0], [129, 8, 1, 1, 1, 2, 0, 3, 1, 9], [128, 8, 2, 1, 1, 2, 0, 3, 1, 9], [128, 9, 1, 1, 1, 2, 1, 5, 3, 1, 4], [128, 14, 1, 0, 2, 0, 3, 0, 129, 6, 1, 1, 97, 2, 1, 0]]
theorem bads_none : ∀ b ∈ bads, decMan b = none := by
  intro b hb
  simp only [bads, List.mem_cons, List.not_mem_nil, or_false] at hb
  rcases hb with rfl | rfl | rfl | rfl | rfl | rfl
  · decide +kernel
  · exact decMan_none (o := .mk 128 [] []) rfl (by decide +kernel)
  · exact decMan_none (o := .mk 129 [] [.mk 1 [1] [], .mk 2 [] [], .mk 3 [9] []]) rfl (by decide +kernel)
  · exact decMan_none (o := .mk 128 [] [.mk 2 [1] [], .mk 2 [] [], .mk 3 [9] []]) rfl (by decide +kernel)
  · exact decMan_none (o := .mk 128 [] [.mk 1 [1] [], .mk 2 [5] [], .mk 3 [4] []]) rfl (by decide +kernel)
  · exact decMan_none (o := .mk 128 [] [.mk 1 [] [], .mk 2 [] [], .mk 3 [] [], .mk 129 [] [.mk 1 [97] [], .mk 2 [0] []]]) rfl (by decide +kernel)

def exF (n : List UInt8) : File := ⟨n, fun _ => 0⟩
def roa : List UInt8 := [97, 46, 114, 111, 97]
def man7 : Man := ⟨7, 0, 9, [⟨roa, sha [97, 98, 99]⟩]⟩
def many : List NFile := List.replicate 201 ⟨[], []⟩
def manyA : List (List AV) := List.replicate 201 [.str [], .sl .full 0 []]
theorem with_A (fs : List File) (x : AV) (hx : Sub x (.sl .no 33 (rows fs))) (hl : fs.length ≤ 1000000000000000) (H : List AObj) : CallsA E 25 [x] H (Is H (.int .i64 (check ⟨0, 0, 9, fs⟩))) := by
  refine CallsA.subL (vs := [.sl .no 33 (rows fs)]) ⟨hx, trivial⟩ ?_
  have hC := fun H => Check_A ⟨0, 0, 9, fs⟩ H hl
  refine .enter Tryd.func25 rfl rfl rfl 7 Tryd.ntmps25 (Nat.le_of_ble_eq_true rfl) ?_
  repeat' first
    | refine WpA.seq ?_
    | refine WpA.region ?_
    | refine WpOps.op _ rfl rfl rfl rfl rfl ?_
    | refine WpOps.build _ rfl rfl rfl rfl rfl ?_
    | (refine WpOps.call rfl rfl rfl rfl rfl (by exact hC _) ?_; rintro _ _ ⟨rfl, rfl⟩)
    | refine WpOps.nil ?_
    | refine WpA.ret ?_
  exact retK.ok rfl rfl rfl .int
theorem sub_many : ∀ k : Nat, SubLL (List.replicate k [.str [], .sl .full 0 []]) (nrows (List.replicate k ⟨[], []⟩))
  | 0 => trivial
  | k + 1 => ⟨⟨Sub.refl _, Sub.empty, trivial⟩, sub_many k⟩
theorem man7_make : makeE 0 9 [⟨roa, [97, 98, 99]⟩] = 0 ∧ makeM 7 0 9 [⟨roa, [97, 98, 99]⟩] = man7 := by
  have h0 : makeE 0 9 [⟨roa, [97, 98, 99]⟩] = 0 := by decide +kernel
  refine ⟨h0, ?_⟩
  rw [make_ok h0, makeFs]
  show (⟨7, 0, 9, (sortB [roa]).map _⟩ : Man) = _
  rw [sortB_one]; rfl
theorem man7_match : byNameE [⟨roa, [97, 98, 100]⟩] = 0 ∧ matchR man7 [⟨roa, [97, 98, 100]⟩] = ⟨[], [roa], []⟩ := by
  have h0 : byNameE [⟨roa, [97, 98, 100]⟩] = 0 := by decide +kernel
  refine ⟨h0, ?_⟩
  rw [← man7_make.2, matchR_make man7_make.1 h0]
  have e : sortB (names [⟨roa, [97, 98, 99]⟩]) = [roa] := sortB_one _
  rw [e]
  have h1 : badB [⟨roa, [97, 98, 99]⟩] [⟨roa, [97, 98, 100]⟩] roa = true := by
    have hh : heq (hashOf [⟨roa, [97, 98, 100]⟩] roa) (hashOf [⟨roa, [97, 98, 99]⟩] roa) = false := by
      have k0 : ((sha [97, 98, 100] 1 == sha [97, 98, 99] 1) = false) := by decide +kernel
      cases hq : heq (hashOf [⟨roa, [97, 98, 100]⟩] roa) (hashOf [⟨roa, [97, 98, 99]⟩] roa) with
      | false => rfl
      | true =>
        have := heq_iff.1 hq
        have h2 : (hashA (sha [97, 98, 100]))[1]? = (hashA (sha [97, 98, 99]))[1]? := congrArg (fun l => l[1]?) this
        have h3 : some (u8 (sha [97, 98, 100] 1)) = some (u8 (sha [97, 98, 99] 1)) := h2
        injection h3 with h3
        injection h3 with _ h3
        have h4 : sha [97, 98, 100] 1 = sha [97, 98, 99] 1 := UInt8.toNat_inj.1 (by exact_mod_cast h3)
        rw [h4] at k0
        simp at k0
    rw [badB, hh]; rfl
  have h2 : ((names [⟨roa, [97, 98, 100]⟩]).filter fun n => !inB [⟨roa, [97, 98, 99]⟩] n) = [] := by decide +kernel
  rw [h2, sortB_nil]
  have h3 : ([roa].filter fun n => !inB [⟨roa, [97, 98, 100]⟩] n) = [] := by decide +kernel
  rw [h3, List.filter_cons, if_pos h1]
  rfl
theorem eqHashS (f : File) : EqS E (.inl 61) [.agg f.hash] [.agg f.hash] true := by
  have := eqHash f f
  rwa [heq_refl] at this
theorem names_A (H : List AObj) : CallsA E 6 [] H (Is H (.bool true)) := by
  have w1 : ∀ X, CallsA E 25 [.sl .full 0 []] X (Is X (.int .i64 0)) := fun X => with_A [] (.sl .full 0 []) Sub.empty (by decide) X
  have w2 : ∀ X, CallsA E 25 [.sl .full 33 (rows [exF [97], exF [98]])] X (Is X (.int .i64 0)) := fun X => with_A [exF [97], exF [98]] _ Sub.untag (by decide) X
  have w3 : ∀ X, CallsA E 25 [.sl .full 33 (rows [exF [98], exF [97]])] X (Is X (.int .i64 8)) := fun X => with_A [exF [98], exF [97]] _ Sub.untag (by decide) X
  have w4 : ∀ X, CallsA E 25 [.sl .full 33 (rows [exF [97], exF [97]])] X (Is X (.int .i64 8)) := fun X => with_A [exF [97], exF [97]] _ Sub.untag (by decide) X
  have w5 : ∀ X, CallsA E 25 [.sl .full 33 (rows [exF [46, 46]])] X (Is X (.int .i64 8)) := fun X => with_A [exF [46, 46]] _ Sub.untag (by decide) X
  have w6 : ∀ X, CallsA E 25 [.sl .full 33 (rows [exF []])] X (Is X (.int .i64 8)) := fun X => with_A [exF []] _ Sub.untag (by decide) X
  have w7 : ∀ X, CallsA E 25 [.sl .full 33 (List.replicate 201 (exF []).row)] X (Is X (.int .i64 4)) := fun X => by
    have e : List.replicate 201 (exF []).row = rows (List.replicate 201 (exF [])) := by rw [rows, List.map_replicate]
    rw [e]
    exact with_A (List.replicate 201 (exF [])) _ Sub.untag (by decide) X
  have hck : ∀ (v a b : Int) X, CallsA E 23 [.agg [.int .u64 v, .int .i64 a, .int .i64 b, .sl .full 0 []]] X (Is X (.int .i64 (check ⟨v, a, b, []⟩))) := fun v a b X =>
    CallsA.subL (vs := [Man.av ⟨v, a, b, []⟩ .no]) ⟨Sub.agg (vs := [.int .u64 v, .int .i64 a, .int .i64 b, .sl .no 33 []]) ⟨Sub.refl _, Sub.refl _, Sub.refl _, Sub.empty, trivial⟩, trivial⟩ (Check_A ⟨v, a, b, []⟩ X (Nat.zero_le _))
  have c1 : ∀ X, CallsA E 23 [.agg [.int .u64 0, .int .i64 1, .int .i64 0, .sl .full 0 []]] X (Is X (.int .i64 8)) := fun X => hck 0 1 0 X
  have c2 : ∀ X, CallsA E 23 [.agg [.int .u64 18446744073709551615, .int .i64 0, .int .i64 1099511627776, .sl .full 0 []]] X (Is X (.int .i64 0)) := fun X => hck 18446744073709551615 0 1099511627776 X
  have c3 : ∀ X, CallsA E 23 [.agg [.int .u64 0, .int .i64 0, .int .i64 1099511627777, .sl .full 0 []]] X (Is X (.int .i64 8)) := fun X => hck 0 0 1099511627777 X
  have hsub : Sub (.sl .full 2 manyA) (.sl .no 2 (nrows many)) := fun c v hv => Sub.untag c v (Sub.elems (sub_many 201) c v hv)
  have hmany : ∀ f ∈ many, f.bytes.length ≤ 1000000000 := fun f hf => by rw [(List.mem_replicate.1 hf).2]; decide
  have m1 : ∀ X, CallsA E 13 [.int .u64 1, .agg [.int .i64 1, .int .i64 0], .sl .full 2 manyA] X (Is X (.tup [zeroMan.av .no, .int .i64 8])) := fun X => by
    have h := make_A 1 1 0 many X (by decide) hmany
    have e1 : makeE 1 0 many = 8 := by decide +kernel
    rw [makeM, e1, if_neg (by decide)] at h
    exact CallsA.subL (vs := [.int .u64 1, .agg [.int .i64 1, .int .i64 0], .sl .no 2 (nrows many)]) ⟨Sub.refl _, Sub.refl _, hsub, trivial⟩ h
  have m2 : ∀ X, CallsA E 13 [.int .u64 1, .agg [.int .i64 0, .int .i64 9], .sl .full 2 manyA] X (Is X (.tup [zeroMan.av .no, .int .i64 4])) := fun X => by
    have h := make_A 1 0 9 many X (by decide) hmany
    have e1 : makeE 0 9 many = 4 := by decide +kernel
    rw [makeM, e1, if_neg (by decide)] at h
    exact CallsA.subL (vs := [.int .u64 1, .agg [.int .i64 0, .int .i64 9], .sl .no 2 (nrows many)]) ⟨Sub.refl _, Sub.refl _, hsub, trivial⟩ h
  have mk : ∀ (v : Int) (fs : List NFile) X, fs.length ≤ 1000000000 → (∀ f ∈ fs, f.bytes.length ≤ 1000000000) → CallsA E 13 [.int .u64 v, .agg [.int .i64 0, .int .i64 9], .sl .full 2 (nrows fs)] X (Is X (.tup [(makeM v 0 9 fs).av .no, .int .i64 (makeE 0 9 fs)])) := fun v fs X h1 h2 =>
    CallsA.subL (vs := [.int .u64 v, .agg [.int .i64 0, .int .i64 9], .sl .no 2 (nrows fs)]) ⟨Sub.refl _, Sub.refl _, Sub.untag, trivial⟩ (make_A v 0 9 fs X h1 h2)
  have m3 : ∀ X, CallsA E 13 [.int .u64 1, .agg [.int .i64 0, .int .i64 9], .sl .full 2 (nrows [⟨[97], []⟩, ⟨[97], []⟩, ⟨[], []⟩])] X (Is X (.tup [zeroMan.av .no, .int .i64 8])) := fun X => by
    have h := mk 1 [⟨[97], []⟩, ⟨[97], []⟩, ⟨[], []⟩] X (by decide) (by decide)
    have e1 : makeE 0 9 [⟨[97], []⟩, ⟨[97], []⟩, ⟨[], []⟩] = 8 := by decide +kernel
    rw [makeM, e1, if_neg (by decide)] at h
    exact h
  have m4 : ∀ X, CallsA E 13 [.int .u64 1, .agg [.int .i64 0, .int .i64 9], .sl .full 2 (nrows [⟨[97], []⟩, ⟨[97], [120]⟩])] X (Is X (.tup [zeroMan.av .no, .int .i64 14])) := fun X => by
    have h := mk 1 [⟨[97], []⟩, ⟨[97], [120]⟩] X (by decide) (by decide)
    have e1 : makeE 0 9 [⟨[97], []⟩, ⟨[97], [120]⟩] = 14 := by decide +kernel
    rw [makeM, e1, if_neg (by decide)] at h
    exact h
  have m5 : ∀ X, CallsA E 13 [.int .u64 7, .agg [.int .i64 0, .int .i64 9], .sl .full 2 (nrows [⟨roa, [97, 98, 99]⟩])] X (Is X (.tup [man7.av .no, .int .i64 0])) := fun X => by
    have h := mk 7 [⟨roa, [97, 98, 99]⟩] X (by decide) (by decide)
    rw [man7_make.1, man7_make.2] at h
    exact h
  have f1 : ∀ X, CallsA E 27 [man7.av .no, .str roa] X (Is X (.tup [.agg (File.hash ⟨roa, sha [97, 98, 99]⟩), .int .i64 0])) := fun X => by
    have h := findM_A (v := 7) man7_make.1 roa X
    rw [man7_make.2] at h
    exact h
  have f2 : ∀ X, CallsA E 27 [man7.av .no, .str [97]] X (Is X (.tup [.agg noFile.hash, .int .i64 6])) := fun X => by
    have h := findM_A (v := 7) man7_make.1 [97] X
    rw [man7_make.2] at h
    exact h
  have f3 : ∀ X, CallsA E 27 [.agg [.int .u64 0, .int .i64 1, .int .i64 0, .sl .full 0 []], .str [97]] X (Is X (.tup [.agg noFile.hash, .int .i64 8])) := fun X =>
    CallsA.subL (vs := [Man.av ⟨0, 1, 0, []⟩ .no, .str [97]]) ⟨Sub.agg (vs := [.int .u64 0, .int .i64 1, .int .i64 0, .sl .no 33 []]) ⟨Sub.refl _, Sub.refl _, Sub.refl _, Sub.empty, trivial⟩, Sub.refl _, trivial⟩ (Find_A ⟨0, 1, 0, []⟩ [97] X (by decide))
  have t1 : ∀ X, CallsA E 15 [man7.av .no, .sl .full 2 (nrows [⟨[98], []⟩, ⟨[98], []⟩])] X (Is X (.tup [rep0.av, .int .i64 14])) := fun X => by
    have h := match_A man7 [⟨[98], []⟩, ⟨[98], []⟩] X (by decide) (by decide) (by decide)
    have e1 : matchE man7 [⟨[98], []⟩, ⟨[98], []⟩] = 14 := by
      rw [← man7_make.2, matchE_make man7_make.1]; decide +kernel
    rw [matchR, e1, if_neg (by decide)] at h
    exact CallsA.subL (vs := [man7.av .no, .sl .no 2 (nrows [⟨[98], []⟩, ⟨[98], []⟩])]) ⟨Sub.refl _, Sub.untag, trivial⟩ h
  have t2 : ∀ X, CallsA E 15 [man7.av .no, .sl .full 2 (nrows [⟨roa, [97, 98, 100]⟩])] X (Is X (.tup [Rep.av ⟨[], [roa], []⟩, .int .i64 0])) := fun X => by
    have h := match_A man7 [⟨roa, [97, 98, 100]⟩] X (by decide) (by decide) (by decide)
    have e1 : matchE man7 [⟨roa, [97, 98, 100]⟩] = 0 := by
      rw [← man7_make.2, matchE_make man7_make.1]; exact man7_match.1
    rw [e1, man7_match.2] at h
    exact CallsA.subL (vs := [man7.av .no, .sl .no 2 (nrows [⟨roa, [97, 98, 100]⟩])]) ⟨Sub.refl _, Sub.untag, trivial⟩ h
  have hR : ∀ X, CallsA E 18 [Rep.av ⟨[], [roa], []⟩, .agg [.sl .full 0 [], .sl .full 1 (strs [roa]), .sl .full 0 []]] X (Is X (.bool true)) := fun X => by
    have := oneRep_A ⟨[], [roa], []⟩ ⟨[], [roa], []⟩ (.agg [.sl .full 0 [], .sl .full 1 (strs [roa]), .sl .full 0 []]) (Sub.agg (vs := [.sl .no 1 (strs []), .sl .no 1 (strs [roa]), .sl .no 1 (strs [])]) ⟨Sub.empty, Sub.untag, Sub.empty, trivial⟩) X (Nat.le_of_ble_eq_true rfl) (Nat.le_of_ble_eq_true rfl) (Nat.le_of_ble_eq_true rfl)
    rw [sameRep_refl] at this
    exact this
  have hS : ∀ X, CallsA E 28 [.sl .no 1 ([97, 98, 99].map byteRow)] X (Is X (.agg (File.hash ⟨roa, sha [97, 98, 99]⟩))) := fun X => sum_A [97, 98, 99] (by decide) X
  have hA := fun H => alive_A H
  have hF := fun (n b : List UInt8) H (hb : b.length ≤ 140737488355328) => file_A n b H hb
  have hD : ∀ (b : List UInt8), b ∈ bads → ∀ X, CallsA E 22 [.sl .no 1 (b.map byteRow)] X (Is X (.tup [zeroMan.av .no, .int .i64 12])) := fun b hb X => by
    have h := manDecode_A b X (by simp only [bads, List.mem_cons, List.not_mem_nil, or_false] at hb; rcases hb with rfl | rfl | rfl | rfl | rfl | rfl <;> decide)
    have e : decR b = .tup [zeroMan.av .no, .int .i64 12] := by unfold decR; rw [bads_none b hb]
    rw [e] at h
    exact h
  refine .enter Tryd.func6 rfl rfl rfl 251 Tryd.ntmps6 (Nat.le_of_ble_eq_true rfl) ?_
  refine WpA.seq ?_
  repeat' first
    | refine WpA.region ?_
    | refine WpOps.op _ rfl rfl rfl rfl rfl ?_
    | refine WpOps.nil ?_
  refine WpA.seq ?_
  repeat' first
    | refine WpA.region ?_
    | refine WpOps.alloc _ rfl rfl rfl rfl rfl rfl ?_
    | refine WpOps.store rfl rfl rfl rfl rfl rfl rfl rfl rfl rfl ?_
    | refine WpOps.build _ rfl rfl rfl rfl rfl ?_
    | refine WpOps.nil ?_
  refine WpA.seq ?_
  repeat' first
    | refine WpA.region ?_
    | refine WpOps.alloc _ rfl rfl rfl rfl rfl rfl ?_
    | refine WpOps.store rfl rfl rfl rfl rfl rfl rfl rfl rfl rfl ?_
    | refine WpOps.build _ rfl rfl rfl rfl rfl ?_
    | refine WpOps.nil ?_
  show WpA E none 251 _ _ _ (H ++ [.cells [.int .i64 0, .int .i64 9], .cells (exF [97]).row, .cells (exF [98]).row])
  refine WpA.weak (T := [(0, .bool false), (1, .ptr H.length 0 0), (2, .ptr H.length 1 0), (3, .ptr H.length 2 0)]) ⟨rfl, rfl, rfl, rfl, trivial⟩ ?_
  refine WpA.freezeP (d := 1) (j := 0) rfl rfl ?_
  refine WpA.freezeP (d := 2) (j := 1) rfl rfl ?_
  refine WpA.freezeP (d := 3) (j := 2) rfl rfl ?_
  refine WpA.seq ?_
  repeat' first
    | refine WpA.region ?_
    | refine WpOps.op _ rfl rfl rfl rfl rfl ?_
    | refine WpOps.build _ rfl rfl rfl rfl rfl ?_
    | (refine WpOps.call rfl rfl rfl rfl rfl (by exact w1 _) ?_; rintro _ _ ⟨rfl, rfl⟩)
    | (refine WpOps.call rfl rfl rfl rfl rfl (by exact w2 _) ?_; rintro _ _ ⟨rfl, rfl⟩)
    | (refine WpOps.call rfl rfl rfl rfl rfl (by exact w3 _) ?_; rintro _ _ ⟨rfl, rfl⟩)
    | (refine WpOps.call rfl rfl rfl rfl rfl (by exact w4 _) ?_; rintro _ _ ⟨rfl, rfl⟩)
    | (refine WpOps.call rfl rfl rfl rfl rfl (by exact w5 _) ?_; rintro _ _ ⟨rfl, rfl⟩)
    | (refine WpOps.call rfl rfl rfl rfl rfl (by exact w6 _) ?_; rintro _ _ ⟨rfl, rfl⟩)
    | (refine WpOps.call rfl rfl rfl rfl rfl (by exact w7 _) ?_; rintro _ _ ⟨rfl, rfl⟩)
    | (refine WpOps.call rfl rfl rfl rfl rfl (by exact c1 _) ?_; rintro _ _ ⟨rfl, rfl⟩)
    | (refine WpOps.call rfl rfl rfl rfl rfl (by exact c2 _) ?_; rintro _ _ ⟨rfl, rfl⟩)
    | (refine WpOps.call rfl rfl rfl rfl rfl (by exact c3 _) ?_; rintro _ _ ⟨rfl, rfl⟩)
    | (refine WpOps.buildSlice _ rfl rfl rfl rfl rfl rfl rfl rfl rfl rfl rfl ?_)
    | (refine WpOps.p1 rfl rfl rfl (.mkSlZ 201 33 (zs := (exF []).row) rfl rfl rfl rfl rfl rfl rfl rfl rfl rfl (by decide) (by decide) (by decide)) ?_)
    | refine WpOps.nil ?_
  refine WpA.weak (T := [(0, .bool false), (1, .rp [.int .i64 0, .int .i64 9]), (4, .bool true)]) ⟨rfl, rfl, (by kernel_rfl), trivial⟩ ?_
  refine WpA.seq ?_
  repeat' first
    | refine WpA.region ?_
    | refine WpOps.op _ rfl rfl rfl rfl rfl ?_
    | refine WpOps.alloc _ rfl rfl rfl rfl rfl rfl ?_
    | refine WpOps.store rfl rfl rfl rfl rfl rfl rfl rfl rfl rfl ?_
    | refine WpOps.build _ rfl rfl rfl rfl rfl ?_
    | (refine WpOps.call rfl rfl rfl rfl rfl (by exact m1 _) ?_; rintro _ _ ⟨rfl, rfl⟩)
    | (refine WpOps.p1 rfl rfl rfl (.mkSlZ 201 2 (zs := [.str [], .sl .full 0 []]) rfl rfl rfl rfl rfl rfl rfl rfl rfl rfl (by decide) (by decide) (by decide)) ?_)
    | refine WpOps.nil ?_
  refine WpA.seq ?_
  repeat' first
    | refine WpA.drawI [] [0, 0, 0, 0, 0, 0, 3, 2, 0] (by kernel_rfl) (by kernel_rfl) ?_
    | (refine LexH.p0 rfl rfl rfl rfl (fun H0 => .mkSlZ 201 2 (zs := [.str [], .sl .full 0 []]) rfl rfl rfl rfl rfl rfl rfl rfl rfl rfl (by decide) (by decide) (by decide)) ?_)
    | (refine LexH.alloc3 _ rfl rfl rfl rfl rfl rfl rfl ?_)
    | refine LexH.op0 _ rfl rfl rfl rfl rfl (fun _ => rfl) ?_
    | refine LexH.store rfl rfl rfl rfl rfl rfl rfl rfl rfl rfl rfl ?_
    | refine LexH.call0 rfl rfl rfl rfl rfl rfl (fun _ => by exact m2 _) ?_
    | refine LexH.nil ?_
  refine WpA.seq ?_
  repeat' first
    | refine WpA.drawI [] [0, 0, 0, 0, 0, 0, 0, 0, 0, 3, 2, 0] (by kernel_rfl) (by kernel_rfl) ?_
    | (refine LexH.alloc3 _ rfl rfl rfl rfl rfl rfl rfl ?_)
    | refine LexH.op0 _ rfl rfl rfl rfl rfl (fun _ => rfl) ?_
    | refine LexH.buildSlice _ rfl rfl rfl rfl rfl rfl rfl rfl rfl rfl rfl rfl ?_
    | refine LexH.store rfl rfl rfl rfl rfl rfl rfl rfl rfl rfl rfl ?_
    | refine LexH.call0 rfl rfl rfl rfl rfl rfl (fun _ => by exact m3 _) ?_
    | refine LexH.call0 rfl rfl rfl rfl rfl rfl (fun _ => by exact hF _ _ _ (by decide)) ?_
    | refine LexH.nil ?_
  refine WpA.seq ?_
  repeat' first
    | refine WpA.drawI [] [0, 0, 0, 0, 0, 0, 0, 0, 3, 2, 0] (by kernel_rfl) (by kernel_rfl) ?_
    | (refine LexH.alloc3 _ rfl rfl rfl rfl rfl rfl rfl ?_)
    | refine LexH.op0 _ rfl rfl rfl rfl rfl (fun _ => rfl) ?_
    | refine LexH.buildSlice _ rfl rfl rfl rfl rfl rfl rfl rfl rfl rfl rfl rfl ?_
    | refine LexH.store rfl rfl rfl rfl rfl rfl rfl rfl rfl rfl rfl ?_
    | refine LexH.call0 rfl rfl rfl rfl rfl rfl (fun _ => by exact m4 _) ?_
    | refine LexH.call0 rfl rfl rfl rfl rfl rfl (fun _ => by exact hF _ _ _ (by decide)) ?_
    | refine LexH.nil ?_
  refine WpA.seq ?_
  repeat' first
    | refine WpA.drawI [] [0, 0, 0, 0, 0, 0, 0, 3, 2, 0] (by kernel_rfl) (by kernel_rfl) ?_
    | (refine LexH.alloc3 _ rfl rfl rfl rfl rfl rfl rfl ?_)
    | refine LexH.op0 _ rfl rfl rfl rfl rfl (fun _ => rfl) ?_
    | refine LexH.buildSlice _ rfl rfl rfl rfl rfl rfl rfl rfl rfl rfl rfl rfl ?_
    | refine LexH.store rfl rfl rfl rfl rfl rfl rfl rfl rfl rfl rfl ?_
    | refine LexH.call0 rfl rfl rfl rfl rfl rfl (fun _ => by exact m5 _) ?_
    | refine LexH.call0 rfl rfl rfl rfl rfl rfl (fun _ => by exact hF _ _ _ (by decide)) ?_
    | refine LexH.nil ?_
  show WpA E none 251 _ _ _ (H ++ [.dead, .dead, .dead, .cells (zeroMan.cells .no), .cells (zeroMan.cells .no), .cells (zeroMan.cells .no), .cells (zeroMan.cells .no), .cells (man7.cells .no)])
  refine WpA.weak (T := [(0, .bool false), (1, .rp [.int .i64 0, .int .i64 9]), (4, .bool true), (6, .int .i64 8), (8, .int .i64 4), (10, .int .i64 8), (12, .int .i64 14), (13, .ptr H.length 7 0), (14, .int .i64 0)]) ⟨rfl, rfl, rfl, rfl, rfl, rfl, rfl, rfl, rfl, trivial⟩ ?_
  refine WpA.freezeP (d := 13) (j := 7) rfl rfl ?_
  refine WpA.seq ?_
  repeat' first
    | refine WpA.region ?_
    | refine WpOps.op _ rfl rfl rfl rfl rfl ?_
    | refine WpOps.alloc _ rfl rfl rfl rfl rfl rfl ?_
    | refine WpOps.store rfl rfl rfl rfl rfl rfl rfl rfl rfl rfl ?_
    | (refine WpOps.call rfl rfl rfl rfl rfl (by exact f1 _) ?_; rintro _ _ ⟨rfl, rfl⟩)
    | refine WpOps.nil ?_
  refine WpA.seq ?_
  repeat' first
    | refine WpA.region ?_
    | refine WpOps.op _ rfl rfl rfl rfl rfl ?_
    | refine WpOps.alloc _ rfl rfl rfl rfl rfl rfl ?_
    | refine WpOps.store rfl rfl rfl rfl rfl rfl rfl rfl rfl rfl ?_
    | (refine WpOps.call rfl rfl rfl rfl rfl (by exact f2 _) ?_; rintro _ _ ⟨rfl, rfl⟩)
    | refine WpOps.nil ?_
  refine WpA.seq ?_
  repeat' first
    | refine WpA.region ?_
    | refine WpOps.op _ rfl rfl rfl rfl rfl ?_
    | refine WpOps.alloc _ rfl rfl rfl rfl rfl rfl ?_
    | refine WpOps.store rfl rfl rfl rfl rfl rfl rfl rfl rfl rfl ?_
    | refine WpOps.build _ rfl rfl rfl rfl rfl ?_
    | (refine WpOps.call rfl rfl rfl rfl rfl (by exact f3 _) ?_; rintro _ _ ⟨rfl, rfl⟩)
    | refine WpOps.nil ?_
  refine WpA.seq ?_
  repeat' first
    | refine WpA.drawI [] [0, 0, 0, 0, 0, 0, 0, 0, 3, 2, 0] (by kernel_rfl) (by kernel_rfl) ?_
    | (refine LexH.alloc3 _ rfl rfl rfl rfl rfl rfl rfl ?_)
    | refine LexH.op0 _ rfl rfl rfl rfl rfl (fun _ => rfl) ?_
    | refine LexH.buildSlice _ rfl rfl rfl rfl rfl rfl rfl rfl rfl rfl rfl rfl ?_
    | refine LexH.store rfl rfl rfl rfl rfl rfl rfl rfl rfl rfl rfl ?_
    | refine LexH.call0 rfl rfl rfl rfl rfl rfl (fun _ => by exact t1 _) ?_
    | refine LexH.call0 rfl rfl rfl rfl rfl rfl (fun _ => by exact hF _ _ _ (by decide)) ?_
    | refine LexH.nil ?_
  refine WpA.seq ?_
  repeat' first
    | refine WpA.drawI [] [0, 0, 0, 0, 0, 0, 0, 3, 2, 0] (by kernel_rfl) (by kernel_rfl) ?_
    | (refine LexH.alloc3 _ rfl rfl rfl rfl rfl rfl rfl ?_)
    | refine LexH.op0 _ rfl rfl rfl rfl rfl (fun _ => rfl) ?_
    | refine LexH.buildSlice _ rfl rfl rfl rfl rfl rfl rfl rfl rfl rfl rfl rfl ?_
    | refine LexH.store rfl rfl rfl rfl rfl rfl rfl rfl rfl rfl rfl ?_
    | refine LexH.call0 rfl rfl rfl rfl rfl rfl (fun _ => by exact t2 _) ?_
    | refine LexH.call0 rfl rfl rfl rfl rfl rfl (fun _ => by exact hF _ _ _ (by decide)) ?_
    | refine LexH.nil ?_
  show WpA E none 251 _ _ _ (H ++ [.dead, .dead, .dead, .cells (zeroMan.cells .no), .cells (zeroMan.cells .no), .cells (zeroMan.cells .no), .cells (zeroMan.cells .no), .dead, .cells (File.hash ⟨roa, sha [97, 98, 99]⟩), .cells noFile.hash, .cells noFile.hash, .cells [.sl .no 1 [], .sl .no 1 [], .sl .no 1 []], .cells [.sl .no 1 [], .sl .no 1 (strs [roa]), .sl .no 1 []]])
  refine WpA.weak (T := [(0, .bool false), (4, .bool true), (6, .int .i64 8), (8, .int .i64 4), (10, .int .i64 8), (12, .int .i64 14), (13, .rp (man7.cells .no)), (14, .int .i64 0), (15, .ptr H.length 8 0), (16, .int .i64 0), (18, .int .i64 6), (20, .int .i64 8), (22, .int .i64 14), (23, .ptr H.length 12 0), (24, .int .i64 0)]) ⟨rfl, rfl, rfl, rfl, rfl, rfl, rfl, rfl, rfl, rfl, rfl, rfl, rfl, rfl, rfl, trivial⟩ ?_
  refine WpA.freezeP (d := 15) (j := 8) rfl rfl ?_
  refine WpA.freezeP (d := 23) (j := 12) rfl rfl ?_
  refine WpA.seq ?_
  repeat' first
    | refine WpA.drawI [] [0, 0, 0, 0, 0, 0, 0, 0, 0, 0, 0, 0, 0, 0, 0, 0, 0, 0, 0, 0, 0, 0, 0, 0, 0, 0, 0, 0, 0, 0, 0, 0, 0, 0, 0, 3, 2, 0, 0, 0, 0, 0, 0, 0, 0, 0, 0, 0, 0, 0, 0, 0, 0, 0, 0, 0, 0, 0, 0, 0, 0, 0, 0] (by kernel_rfl) (by kernel_rfl) ?_
    | (refine LexH.p3 rfl rfl rfl rfl (fun k hk => by cases hk) (P1.buildSliceO ([97, 98, 99].map u8) rfl rfl rfl rfl rfl rfl rfl rfl) ?_)
    | (refine LexH.p2 rfl rfl rfl rfl (P1.cash [97, 98, 99] rfl rfl rfl rfl rfl rfl) ?_)
    | (refine LexH.p0 (av := .bool true) rfl rfl rfl rfl (fun H0 => P1.eqA (b := true) false rfl rfl rfl keyHash (by exact eqHashS ⟨roa, sha [97, 98, 99]⟩)) ?_)
    | refine LexH.op0 _ rfl rfl rfl rfl rfl (fun _ => rfl) ?_
    | refine LexH.build _ rfl rfl rfl rfl rfl rfl ?_
    | refine LexH.buildSlice _ rfl rfl rfl rfl rfl rfl rfl rfl rfl rfl rfl rfl ?_
    | refine LexH.call0 rfl rfl rfl rfl rfl rfl (fun _ => by exact hS _) ?_
    | refine LexH.call0 rfl rfl rfl rfl rfl rfl (fun _ => by exact hR _) ?_
    | refine LexH.nil ?_
  show WpA E none 251 _ _ _ _
  refine WpA.weak (T := [(0, .bool false), (4, .bool true), (25, .bool true)]) ⟨rfl, rfl, (by kernel_rfl), trivial⟩ ?_
  refine WpA.seq ?_
  repeat' first
    | (refine WpOps.buildSlice (d := 220) (len := 2) ([128, 0].map u8) rfl rfl rfl rfl rfl rfl (by kernel_rfl) (by kernel_rfl) rfl rfl rfl ?_)
    | (refine WpOps.buildSlice (d := 221) (len := 10) ([129, 8, 1, 1, 1, 2, 0, 3, 1, 9].map u8) rfl rfl rfl rfl rfl rfl (by kernel_rfl) (by kernel_rfl) rfl rfl rfl ?_)
    | (refine WpOps.buildSlice (d := 222) (len := 10) ([128, 8, 2, 1, 1, 2, 0, 3, 1, 9].map u8) rfl rfl rfl rfl rfl rfl (by kernel_rfl) (by kernel_rfl) rfl rfl rfl ?_)
    | (refine WpOps.buildSlice (d := 223) (len := 11) ([128, 9, 1, 1, 1, 2, 1, 5, 3, 1, 4].map u8) rfl rfl rfl rfl rfl rfl (by kernel_rfl) (by kernel_rfl) rfl rfl rfl ?_)
    | (refine WpOps.buildSlice (d := 224) (len := 16) ([128, 14, 1, 0, 2, 0, 3, 0, 129, 6, 1, 1, 97, 2, 1, 0].map u8) rfl rfl rfl rfl rfl rfl (by kernel_rfl) (by kernel_rfl) rfl rfl rfl ?_)
    | refine WpA.region ?_
    | refine WpOps.op _ rfl rfl rfl rfl rfl ?_
    | (refine WpOps.buildSlice _ rfl rfl rfl rfl rfl rfl rfl rfl rfl rfl rfl ?_)
    | refine WpOps.nil ?_
  show WpA E none 251 _ _ _ _
  refine WpA.weakS (T := [(0, .bool false), (4, .bool true), (25, .bool true), (26, .sl .no 1 (partsA bads))]) ⟨Sub.refl _, Sub.refl _, Sub.refl _, (fun c v hv => Sub.untag c v (Sub.elems (by exact ⟨⟨Sub.empty, trivial⟩, ⟨Sub.untag, trivial⟩, ⟨Sub.untag, trivial⟩, ⟨Sub.untag, trivial⟩, ⟨Sub.untag, trivial⟩, ⟨Sub.untag, trivial⟩, trivial⟩) c v hv)), trivial⟩ ?_
  show WpA E none 251 _ _ _ (H ++ [.dead, .dead, .dead, .cells (zeroMan.cells .no), .cells (zeroMan.cells .no), .cells (zeroMan.cells .no), .cells (zeroMan.cells .no), .dead, .dead, .cells noFile.hash, .cells noFile.hash, .cells [.sl .no 1 [], .sl .no 1 [], .sl .no 1 []], .dead, .dead])
  repeat' first
    | refine WpA.seq ?_
    | refine WpA.region ?_
    | refine WpOps.op _ rfl rfl rfl rfl rfl ?_
    | refine WpA.block ?_
    | refine WpOps.nil ?_
  refine WpA.loopG 6 (fun i => [(0, .bool false), (4, .bool true), (25, .bool true), (26, .sl .no 1 (partsA bads)), (27, .int .i64 (i : Nat))]) (fun _ => H ++ [.dead, .dead, .dead, .cells (zeroMan.cells .no), .cells (zeroMan.cells .no), .cells (zeroMan.cells .no), .cells (zeroMan.cells .no), .dead, .dead, .cells noFile.hash, .cells noFile.hash, .cells [.sl .no 1 [], .sl .no 1 [], .sl .no 1 []], .dead, .dead]) (fun i => True) trivial
    ⟨rfl, rfl, rfl, rfl, rfl, trivial⟩ rfl (fun _ _ => rfl) (fun i hi _ => TrOk.refl _) (fun i hi _ => ⟨.bool, .bool, .bool, .sl (fun _ _ e => by cases e) fun x hx e he => (by
      obtain ⟨b, _, rfl⟩ := List.mem_map.1 hx
      have := List.mem_singleton.1 he
      subst this
      exact bd_slB _), .int, trivial⟩) (fun i hi _ => ?_) (fun _ => ?_) (fun _ => ⟨rfl, rfl, rfl, rfl, rfl, trivial⟩)
  · have hib : i < bads.length := hi
    have hge : (partsA bads)[((i : Nat) : Int).toNat]? = some [.sl .no 1 ((bads[i]).map byteRow)] := by rw [Int.toNat_natCast, partsA, List.getElem?_map, List.getElem?_eq_getElem hib]; rfl
    have hDi := hD bads[i] (List.getElem_mem hib)
    have hlt : decide (((i : Nat) : Int) < (((partsA bads).length : Nat) : Int)) = true := decide_eq_true (by show (i : Int) < ((6 : Nat) : Int); omega)
    obtain ⟨b, hb⟩ : ∃ b, bads[i] = b := ⟨_, rfl⟩
    rw [hb] at hge hDi
    repeat' first
      | refine WpA.condT (congrArg AV.bool hlt) ?_
      | (refine WpOps.elem _ rfl rfl rfl rfl rfl rfl rfl rfl rfl (Int.natCast_nonneg i) hge ?_)
      | refine WpA.seq ?_
      | refine WpA.region ?_
      | refine WpOps.op _ rfl rfl rfl rfl rfl ?_
      | refine WpOps.alloc _ rfl rfl rfl rfl rfl rfl ?_
      | refine WpOps.store rfl rfl rfl rfl rfl rfl rfl rfl rfl rfl ?_
      | (refine WpOps.call rfl rfl rfl rfl rfl (by exact hDi _) ?_; rintro _ _ ⟨rfl, rfl⟩)
      | refine WpA.block ?_
      | refine WpOps.nil ?_
      | refine WpA.skip ?_
      | refine WpA.condF rfl ?_
    refine ⟨trivial, ⟨rfl, rfl, rfl, rfl, congrArg (AV.int .i64) (wrap64 (by omega) (by omega)), trivial⟩, [.cells (zeroMan.cells .no)], by rw [List.append_assoc]; rfl⟩
  · repeat' first
      | refine WpA.condF (congrArg AV.bool (show decide (((6 : Nat) : Int) < (((partsA bads).length : Nat) : Int)) = false from rfl)) ?_
      | refine WpA.seq ?_
      | refine WpA.region ?_
      | refine WpOps.op _ rfl rfl rfl rfl rfl ?_
      | (refine WpOps.call rfl rfl rfl rfl rfl (by exact hA _) ?_; rintro _ _ ⟨rfl, rfl⟩)
      | refine WpA.exit ?_
      | refine WpOps.nil ?_
      | refine WpA.ret ?_
    exact retK.ok («as» := [.bool true]) (by kernel_rfl) (by kernel_rfl) rfl .bool
end Go.Gp.Tryd
