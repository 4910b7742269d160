/- Part of a proof: GdO10, GdO11, GdO12, GdO13 -/
import Derived.Test.YtmacdhglhafldaaDoorK10
import Derived.Test.YtmacdhglhafldaaDoorK11
import Derived.Test.YtmacdhglhafldaaDoorK20

/- The octet codec: Check, Encode. -/
namespace Go.Gp.Tryd
open Go.Proofs
set_option linter.unusedVariables false
set_option linter.unusedSimpArgs false
set_option maxHeartbeats 4000000
set_option maxRecDepth 100000

def Oct.good (o : Oct) : Bool := decide (0 < o.tag.toNat) && (decide (128 ≤ o.tag.toNat) || o.items.length == 0) && (decide (o.tag.toNat < 128) || o.bs.length == 0)
def checkP (o : Oct) : Nat := if (decide (4000 < 0 + (o.pre 1).length) || (o.pre 1).any fun p => decide (12 < p.2)) then 4 else if (o.pre 1).all (fun p => p.1.good) then (if 65536 < o.size then 4 else 0) else 8

structure ChkS where
  n : Nat
  ok : Bool
  e : Int

def itDepth : List AV → Int
  | [_, .int _ d] => d
  | _ => 0
def itGood : List AV → Bool
  | [.agg [.int _ t, .sl _ _ bs, .sl _ _ is], _] => decide (0 < t) && (decide (128 ≤ t) || is.length == 0) && (decide (t < 128) || bs.length == 0)
  | _ => false

def chkStep (s : ChkS) (x : List AV) : ChkS × Option Code :=
  if decide (4000 < s.n + 1) || decide (12 < itDepth x) then ({ s with n := s.n + 1, e := 4 }, some .ret) else ({ s with n := s.n + 1, ok := s.ok && itGood x }, none)

theorem itDepth_eq (o : Oct) (d : Nat) : itDepth (itemOf o d) = (d : Int) := rfl
theorem itGood_eq (o : Oct) (d : Nat) : itGood (itemOf o d) = o.good := by
  show (decide ((0 : Int) < (o.tag.toNat : Int)) && (decide ((128 : Int) ≤ (o.tag.toNat : Int)) || (Oct.cellsL o.items).length == 0) && (decide ((o.tag.toNat : Int) < 128) || (o.bs.map byteRow).length == 0)) = _
  rw [cellsL_length, List.length_map, Oct.good]
  congr 1
  · congr 1
    · exact decide_eq_decide.2 (by omega)
    · congr 1
      exact decide_eq_decide.2 (by omega)
  · congr 1
    exact decide_eq_decide.2 (by omega)

def chkBad (n : Nat) (ps : List (Oct × Nat)) : Bool := decide (4000 < n + ps.length) || ps.any fun p => decide (12 < p.2)

theorem chk_run : ∀ (ps : List (Oct × Nat)) (s : ChkS), s.n ≤ 4000 →
    (chkBad s.n ps = true → (runStep chkStep s (ps.map fun p => itemOf p.1 p.2)).1.e = 4 ∧ (runStep chkStep s (ps.map fun p => itemOf p.1 p.2)).2 = some .ret) ∧
    (chkBad s.n ps = false → runStep chkStep s (ps.map fun p => itemOf p.1 p.2) = ({ n := s.n + ps.length, ok := s.ok && ps.all (fun p => p.1.good), e := s.e }, none))
  | [], s, h => by
    have : ¬ 4000 < s.n := by omega
    simp [runStep, this, chkBad]
  | (o, d) :: ps, s, h => by
    simp only [List.map_cons, runStep]
    by_cases h1 : (decide (4000 < s.n + 1) || decide (12 < itDepth (itemOf o d))) = true
    · have h2 : chkStep s (itemOf o d) = ({ s with n := s.n + 1, e := 4 }, some .ret) := by rw [chkStep, if_pos h1]
      rw [h2]
      have h3 : chkBad s.n ((o, d) :: ps) = true := by
        rw [itDepth_eq] at h1
        simp only [chkBad, Bool.or_eq_true, decide_eq_true_eq, List.any_cons, List.length_cons] at h1 ⊢
        rcases h1 with h1 | h1
        · exact .inl (by omega)
        · exact .inr (.inl (show 12 < d by omega))
      exact ⟨fun _ => ⟨rfl, rfl⟩, fun h4 => by rw [h3] at h4; cases h4⟩
    · have h2 : chkStep s (itemOf o d) = ({ s with n := s.n + 1, ok := s.ok && o.good }, none) := by rw [chkStep, if_neg h1, itGood_eq]
      rw [h2]
      rw [itDepth_eq] at h1
      simp only [Bool.or_eq_true, decide_eq_true_eq, not_or] at h1
      have ih := chk_run ps { s with n := s.n + 1, ok := s.ok && o.good } (by show s.n + 1 ≤ 4000; omega)
      have h4 : chkBad (s.n + 1) ps = chkBad s.n ((o, d) :: ps) := by
        have h5 : decide (12 < d) = false := by have := h1.2; simp only [decide_eq_false_iff_not]; omega
        have h6 : decide (4000 < s.n + 1 + ps.length) = decide (4000 < s.n + ((o, d) :: ps).length) := decide_eq_decide.2 (by simp only [List.length_cons]; omega)
        simp only [chkBad, List.any_cons, h5, Bool.false_or, h6]
      rw [← h4]
      refine ⟨ih.1, fun h5 => (ih.2 h5).trans ?_⟩
      simp only [List.all_cons, List.length_cons, Bool.and_assoc]
      congr 2
      omega

theorem octCheck_A (o : Oct) (H : List AObj) (hs : o.size ≤ 1125899906842) : CallsA E 73 [.agg o.cells] H (Is H (.int .i64 (checkP o : Nat))) := by
  have hall : ∀ H, CallsA E 88 [.agg o.cells, .int .i64 1] H _ := fun H => all_A o 1 H
  refine .enter Tryd.func73 rfl rfl rfl 52 Tryd.ntmps73 (Nat.le_of_ble_eq_true rfl) ?_
  repeat' first
    | refine WpA.seq ?_
    | refine WpA.region ?_
    | refine WpOps.op _ rfl rfl rfl rfl rfl ?_
    | refine WpOps.box _ rfl rfl rfl rfl rfl ?_
    | refine WpOps.alloc _ rfl rfl rfl rfl rfl rfl ?_
    | refine WpOps.store rfl rfl rfl rfl rfl rfl rfl rfl rfl rfl ?_
    | (refine WpOps.call rfl rfl rfl rfl rfl (by exact hall _) ?_; rintro _ _ ⟨rfl, rfl⟩)
    | refine WpA.block ?_
    | refine WpOps.nil ?_
  let L0 : ChkS → List AObj := fun s => [.cells o.cells, .cells [.int .i64 s.e], .cells [.int .i64 (s.n : Nat)], .cells [.bool s.ok], .cells o.cells, .cells [.int .i64 1]]
  refine WpA.weak (T := [(1, .ptr H.length 0 0), (2, .ptr H.length 1 0), (3, .ptr H.length 2 0), (4, .ptr H.length 3 0), (8, .func 108 [.ptr (H.length + 4) 0 0, .ptr (H.length + 4) 1 0])]) ⟨rfl, rfl, rfl, rfl, ?_, trivial⟩ ?_
  · show AV.func 108 [.ptr (H ++ _).length 0 0, .ptr (H ++ _).length 1 0] = _
    rw [List.length_append]; rfl
  have hlen : ∀ s, (H ++ L0 s).length = H.length + 6 := fun s => by rw [List.length_append]; rfl
  have hI := all1_A o 1 (H.length + 4) 0 1 (by omega)
  refine WpA.heap (H' := H ++ L0 ⟨0, true, 0⟩) ((List.append_assoc H _ _).trans rfl) ?_
  refine WpA.rangeI (pl := [9, 10]) (N := H.length + 6) (fun s => H ++ L0 s) chkStep (fun s => s.n ≤ 4000) ⟨0, true, 0⟩ rfl rfl rfl rfl hI (fun s X => ?_) (Nat.zero_le _) hlen ?_ ?_ ?_ (by intro p hp; simp at hp; rcases hp with rfl | rfl <;> decide) ?_ ?_ ?_
  · exact ⟨two_get (H0 := H) (L0 := L0 s) (X := X) (j := 4) (by rw [List.append_assoc]) rfl, two_get (H0 := H) (L0 := L0 s) (X := X) (j := 5) (by rw [List.append_assoc]) rfl⟩
  · intro s s' i ob hi
    rcases Nat.lt_or_ge i H.length with hlt | hge
    · rw [List.getElem?_append_left hlt] at hi ⊢
      exact .inl hi
    · rw [List.getElem?_append_right hge] at hi
      refine .inr ?_
      generalize i - H.length = k at hi
      have hm : ob ∈ L0 s' := List.mem_of_getElem? hi
      simp only [L0, List.mem_cons, List.not_mem_nil, or_false] at hm
      rcases hm with rfl | rfl | rfl | rfl | rfl | rfl
      all_goals refine obd_cells fun a ha => ?_
      all_goals first
        | exact Oct.bd _ o a ha
        | (have := List.mem_singleton.1 ha; subst this; first | exact .int | exact .bool)
  · refine ⟨.ptr (by omega), .ptr (by omega), .ptr (by omega), .ptr (by omega), .func ?_, trivial⟩
    intro e he
    simp only [List.mem_cons, List.not_mem_nil, or_false] at he
    rcases he with rfl | rfl
    · exact .ptr (by omega)
    · exact .ptr (by omega)
  · intro x hx
    obtain ⟨p, _, rfl⟩ := List.mem_map.1 hx
    rfl
  · intro s x hs' hx hn
    unfold chkStep at hn ⊢
    split at hn
    · cases hn
    · rename_i h1
      rw [if_neg h1]
      simp only [Bool.or_eq_true, decide_eq_true_eq, not_or] at h1
      show s.n + 1 ≤ 4000
      omega
  · intro rec l s x X hs' hx C C' hC hC' hCl
    obtain ⟨p, hp, rfl⟩ := List.mem_map.1 hx
    have hs'' : s.n ≤ 4000 := hs'
    have hw : IntKind.i64.wrap ((s.n : Int) + 1) = ((s.n + 1 : Nat) : Int) := by rw [wrap64 (by omega) (by omega)]; omega
    repeat' first
      | refine WpA.seq ?_
      | refine WpA.region ?_
      | refine WpOps.op _ rfl rfl rfl rfl rfl ?_
      | refine WpOps.alloc _ rfl rfl rfl rfl rfl rfl ?_
      | refine WpOps.store rfl rfl rfl rfl rfl rfl rfl rfl rfl rfl ?_
      | refine WpOps.nil ?_
    refine ⟨rfl, _, rfl, ?_⟩
    rw [hCl]
    clear hC hCl C
    have hC := hC'.trans (List.append_assoc _ _ _)
    clear hC'
    repeat' first
      | refine WpOps.load2 hC _ rfl rfl rfl rfl rfl rfl rfl rfl rfl ?_
      | (refine WpOps.store2 hC rfl rfl rfl rfl rfl rfl rfl rfl rfl rfl (fun C hC hCl => ?_); rw [hCl])
      | refine WpA.seq ?_
      | refine WpA.region ?_
      | refine WpOps.op _ rfl rfl rfl rfl rfl ?_
      | refine WpOps.skip rfl rfl rfl ?_
      | refine WpOps.gsplit _ rfl rfl rfl (fun h => ?_) (fun h => ?_)
      | refine WpA.block ?_
      | refine WpOps.nil ?_
      | refine WpA.ret ?_
      | refine WpA.skip ?_
      | refine WpA.condT rfl ?_
      | refine WpA.cond _ rfl (fun h => ?_) (fun h => ?_)
    · have hst : chkStep s (itemOf p.1 p.2) = ({ s with n := s.n + 1, e := 4 }, some .ret) := by
        rw [chkStep, if_pos]
        rw [hw] at h
        simp only [Bool.or_eq_true, decide_eq_true_eq] at h ⊢
        exact .inl (by omega)
      rw [hst]
      exact ⟨[.cells p.1.cells], by rw [hC, ← List.append_assoc H]; show _ = (H ++ [_, _, .cells [.int .i64 ((s.n + 1 : Nat) : Int)], _, _, _] ++ _) ++ _; rw [← hw]; rfl, rfl⟩
    · have hst : chkStep s (itemOf p.1 p.2) = ({ s with n := s.n + 1, e := 4 }, some .ret) := by
        rw [chkStep, if_pos]
        simp only [Bool.or_eq_true, decide_eq_true_eq, itDepth_eq] at h ⊢
        exact .inr h
      rw [hst]
      exact ⟨[.cells p.1.cells], by rw [hC, ← List.append_assoc H]; show _ = (H ++ [_, _, .cells [.int .i64 ((s.n + 1 : Nat) : Int)], _, _, _] ++ _) ++ _; rw [← hw]; rfl, rfl⟩
    all_goals
      have hst : chkStep s (itemOf p.1 p.2) = ({ s with n := s.n + 1, ok := s.ok && p.1.good }, none) := by
        rw [chkStep, if_neg, itGood_eq]
        rw [itDepth_eq]
        simp only [cond_true, cond_false, hw, decide_eq_false_iff_not] at *
        simp only [Bool.or_eq_true, decide_eq_true_eq]
        omega
      rw [hst]
      refine ⟨[.cells p.1.cells], ?_, rfl⟩
      rw [hC, ← List.append_assoc H]
      show (H ++ [_, _, .cells [.int .i64 _], .cells [.bool _], _, _] ++ _) ++ _ = (H ++ [_, _, .cells [.int .i64 ((s.n + 1 : Nat) : Int)], .cells [.bool (s.ok && p.1.good)], _, _] ++ _) ++ _
      rw [← hw]
      congr 7
      refine congrArg (fun b => AObj.cells [AV.bool b]) ?_
      simp only [Oct.good, List.length_map, cellsL_length]
      simp only [List.length_map, cellsL_length, cond_true, cond_false] at *
      have e1 : ∀ n : Nat, ((n : Int) == 0) = (n == 0) := fun n => by rw [Bool.eq_iff_iff]; simp
      have e2 : decide ((p.1.tag.toNat : Int) > 0) = decide (0 < p.1.tag.toNat) := decide_eq_decide.2 (by omega)
      have e3 : decide ((p.1.tag.toNat : Int) ≥ 128) = decide (128 ≤ p.1.tag.toNat) := decide_eq_decide.2 (by omega)
      have e4 : decide ((p.1.tag.toNat : Int) < 128) = decide (p.1.tag.toNat < 128) := decide_eq_decide.2 (by omega)
      simp only [e1, e2, e3, e4] at *
      simp [*]
  · intro rec
    have hits : o.its 1 = (o.pre 1).map fun p => itemOf p.1 p.2 := rfl
    rw [hits]
    have hrun := chk_run (o.pre 1) ⟨0, true, 0⟩ (Nat.zero_le _)
    rw [List.append_assoc]
    cases hb : chkBad 0 (o.pre 1) with
    | true =>
      obtain ⟨h1, h2⟩ := hrun.1 hb
      have hcp : checkP o = 4 := by unfold checkP; unfold chkBad at hb; rw [if_pos hb]
      rw [h2, hcp]
      generalize (runStep chkStep ⟨0, true, 0⟩ ((o.pre 1).map fun p => itemOf p.1 p.2)).1 = st at h1 ⊢
      exact retK.ok rfl rfl (by show AV.int .i64 st.e = _; rw [h1]; rfl) .int
    | false =>
      rw [hrun.2 hb]
      have hcp : checkP o = if (o.pre 1).all (fun p => p.1.good) then (if 65536 < o.size then 4 else 0) else 8 := by unfold checkP; unfold chkBad at hb; rw [if_neg (by rw [hb]; simp)]
      have hsz := fun H => size_A o H (by omega)
      rw [hcp]
      repeat' first
        | refine WpA.seq ?_
        | refine WpA.region ?_
        | refine WpOps.op _ rfl rfl rfl rfl rfl ?_
        | refine WpOps.store rfl rfl rfl rfl rfl rfl rfl rfl rfl rfl ?_
        | (refine WpOps.call rfl rfl rfl rfl rfl (by exact hsz _) ?_; rintro _ _ ⟨rfl, rfl⟩)
        | refine WpOps.nil ?_
        | refine WpA.ret ?_
        | refine WpA.skip ?_
        | refine WpA.cond _ rfl (fun h => ?_) (fun h => ?_)
      · have hg : (o.pre 1).all (fun p => p.1.good) = false := by simpa using h
        rw [hg]
        exact retK.ok rfl rfl rfl .int
      · rename_i h1
        have hg : (o.pre 1).all (fun p => p.1.good) = true := by simpa using h1
        rw [hg]
        have h2 : 65536 < o.size := by simp at h; omega
        rw [if_pos rfl, if_pos h2]
        exact retK.ok rfl rfl rfl .int
      · rename_i h1
        have hg : (o.pre 1).all (fun p => p.1.good) = true := by simpa using h1
        rw [hg]
        have h2 : ¬ 65536 < o.size := by simp at h; omega
        rw [if_pos rfl, if_neg h2]
        exact retK.ok rfl rfl rfl .int

theorem putNil_A (o : Oct) (H : List AObj) (hs : o.size ≤ 1125899906842) : CallsA E 74 [.sl .full 0 [], .agg o.cells] H (Is H (.sl .no 1 (o.enc.map byteRow))) := by
  refine CallsA.cut rfl (TrOk.refl H) (bd_slB _) ?_
  refine CallsA.adopt (us := []) (ws := [.agg o.cells]) (z := 1) ?_
  refine (put_A o [] H.length 0 (H ++ [.tail 0 1]) (by rw [List.getElem?_append_right (by omega)]; simp) (by simpa using hs)).mono ?_
  rintro e H' ⟨rfl, rfl⟩
  refine ⟨[.tail o.enc.length 1], _, ?_, rfl, Sub.untag⟩
  rw [Nat.add_zero, List.set_append_right _ _ (Nat.le_refl _), Nat.sub_self]
  rfl

theorem octEncode_A (o : Oct) (H : List AObj) (hs : o.size ≤ 1125899906842) :
    CallsA E 48 [.agg o.cells] H (Is H (.tup [.sl .no 1 (if checkP o = 0 then o.enc.map byteRow else []), .int .i64 (checkP o : Nat)])) := by
  refine .enter Tryd.func48 rfl rfl rfl 12 Tryd.ntmps48 (Nat.le_of_ble_eq_true rfl) ?_
  repeat' first
    | refine WpA.seq ?_
    | refine WpA.region ?_
    | refine WpOps.op _ rfl rfl rfl rfl rfl ?_
    | refine WpOps.box _ rfl rfl rfl rfl rfl ?_
    | (refine WpOps.call rfl rfl rfl rfl rfl (by exact octCheck_A o _ hs) ?_; rintro _ _ ⟨rfl, rfl⟩)
    | (refine WpOps.call rfl rfl rfl rfl rfl (by exact putNil_A o _ hs) ?_; rintro _ _ ⟨rfl, rfl⟩)
    | refine WpOps.nil ?_
    | refine WpA.ret ?_
    | refine WpA.skip ?_
    | refine WpA.cond _ rfl (fun h => ?_) (fun h => ?_)
  · have hc : checkP o ≠ 0 := by simp at h; omega
    rw [if_neg hc]
    exact retK.sub (.inr rfl) rfl (TrOk.refl H) (L := _) rfl rfl (Sub.tup (vs := [.sl .no 1 [], .int .i64 (checkP o : Nat)]) ⟨Sub.empty, Sub.refl _, trivial⟩) (.tup (by intro e he; simp at he; rcases he with rfl | rfl; exact bd_slB []; exact .int)) ⟨rfl, rfl⟩
  · have hc : checkP o = 0 := by simp at h; omega
    rw [if_pos hc, hc]
    exact retK.ok rfl rfl rfl (.tup (by intro e he; simp at he; rcases he with rfl | rfl; exact bd_slB _; exact .int))
end Go.Gp.Tryd

/- The octet codec: copies of values. -/
namespace Go.Gp.Tryd
open Go.Proofs
set_option linter.unusedVariables false
set_option linter.unusedSimpArgs false
set_option maxHeartbeats 4000000
set_option maxRecDepth 100000

theorem CloneI0_A (H : List AObj) : CallsA E 87 [.sl .no 3 []] H (Is H (.sl .no 3 [])) := by
  refine .enter Tryd.func87 rfl rfl rfl 8 Tryd.ntmps87 (Nat.le_of_ble_eq_true rfl) ?_
  repeat' first
    | refine WpA.seq ?_
    | refine WpA.region ?_
    | refine WpOps.op _ rfl rfl rfl rfl rfl ?_
    | refine WpOps.nil ?_
  refine WpOps.isNil rfl rfl rfl rfl rfl rfl (fun h0 => by cases h0) (fun b hb => ?_)
  repeat' first
    | refine WpA.seq ?_
    | refine WpA.region ?_
    | refine WpOps.op _ rfl rfl rfl rfl rfl ?_
    | refine WpOps.buildSlice [] rfl rfl rfl rfl rfl rfl rfl rfl rfl rfl rfl ?_
    | (refine WpOps.appF (ys := []) rfl rfl rfl rfl rfl rfl rfl (fun k h => by cases h) rfl rfl rfl (by decide) ?_)
    | refine WpOps.nil ?_
    | refine WpA.ret ?_
    | refine WpA.skip ?_
    | refine WpA.cond _ rfl (fun h => ?_) (fun h => ?_)
  · exact retK.sub (.inr rfl) rfl (TrOk.refl H) (L := _) rfl rfl Sub.empty (.sl (fun _ _ e => by cases e) (by simp)) ⟨rfl, rfl⟩
  · exact retK.sub (.inr rfl) rfl (TrOk.refl H) (L := _) rfl rfl Sub.empty (.sl (fun _ _ e => by cases e) (by simp)) ⟨rfl, rfl⟩

theorem chunk_cells (os : List Oct) : chunkA 3 os.length (Oct.cellsL os).flatten = Oct.cellsL os := by
  induction os with
  | nil => rfl
  | cons o os ih =>
    rw [cellsL_cons, List.flatten_cons, List.length_cons]
    show (o.cells ++ (Oct.cellsL os).flatten).take 3 :: chunkA 3 os.length ((o.cells ++ (Oct.cellsL os).flatten).drop 3) = _
    rw [List.take_append_of_le_length (Nat.le_refl 3), List.drop_append_of_le_length (Nat.le_refl 3)]
    show o.cells :: chunkA 3 os.length ([] ++ (Oct.cellsL os).flatten) = _
    rw [List.nil_append, ih]

theorem flat_len (os : List Oct) : (Oct.cellsL os).flatten.length = os.length * 3 := by
  rw [flatten_length (z := 3), cellsL_length]
  intro x hx
  rw [cellsL_map] at hx
  obtain ⟨o, _, rfl⟩ := List.mem_map.1 hx
  rfl

theorem flat_get {os : List Oct} {i : Nat} (h : i < os.length) : (((Oct.cellsL os).flatten.drop (i * 3)).take 3) = os[i].cells := by
  induction os generalizing i with
  | nil => simp at h
  | cons o os ih =>
    rw [cellsL_cons, List.flatten_cons]
    cases i with
    | zero => rfl
    | succ i =>
      rw [show (i + 1) * 3 = o.cells.length + i * 3 from by show _ = 3 + i * 3; omega, List.drop_append]
      rw [List.drop_of_length_le (by omega), Nat.add_sub_cancel_left, List.nil_append]
      exact ih (by simpa using h)

theorem putA_same {cs as' : List AV} {off : Nat} (h2 : 2 ≤ as'.length) (h : (cs.drop off).take as'.length = as') : putA cs off as' = cs := by
  match as', h2, h with
  | a :: b :: r, _, h =>
    show cs.take off ++ (a :: b :: r) ++ cs.drop (off + (a :: b :: r).length) = cs
    rw [List.append_assoc]
    calc cs.take off ++ ((a :: b :: r) ++ cs.drop (off + (a :: b :: r).length)) = cs.take off ++ ((cs.drop off).take (a :: b :: r).length ++ (cs.drop off).drop (a :: b :: r).length) := by rw [h, List.drop_drop]
      _ = cs := by rw [List.take_append_drop, List.take_append_drop]

theorem Twin_A : ∀ (o : Oct) (H : List AObj), o.size ≤ 1000000000000 → CallsA E 72 [.agg o.cells] H (Is H (.agg o.cells))
  | .mk tg bs is, H, hs => by
    have ih : ∀ (i : Nat) (h : i < is.length) (H : List AObj), CallsA E 72 [.agg (is[i]).cells] H (Is H (.agg (is[i]).cells)) := fun i h H => Twin_A is[i] H (by have := size_get h; rw [size_mk] at hs; omega)
    rw [size_mk] at hs
    have hlen := length_le_sizeL is
    have hB : ∀ H, CallsA E 86 [.sl .no 1 (bs.map byteRow)] H (Is H (.sl .no 1 (bs.map byteRow))) := fun H => CloneB_A _ H (by simp; omega) (bd_slB _)
    by_cases he : is = []
    · subst he
      refine .enter Tryd.func72 rfl rfl rfl 29 Tryd.ntmps72 (Nat.le_of_ble_eq_true rfl) ?_
      repeat' first
        | refine WpA.seq ?_
        | refine WpA.region ?_
        | refine WpOps.op _ rfl rfl rfl rfl rfl ?_
        | refine WpOps.box _ rfl rfl rfl rfl rfl ?_
        | refine WpOps.alloc _ rfl rfl rfl rfl rfl rfl ?_
        | refine WpA.block ?_
        | refine WpOps.nil ?_
        | refine WpA.drawC (by kernel_rfl) (by kernel_rfl) ?_
        | refine LexH.op0 _ rfl rfl rfl rfl rfl (fun _ => rfl) ?_
        | refine LexH.op1 _ rfl rfl rfl rfl rfl rfl ?_
        | refine LexH.store rfl rfl rfl rfl rfl rfl rfl rfl rfl rfl rfl ?_
        | refine LexH.call rfl rfl rfl rfl rfl rfl (by exact hB _) ?_
        | refine LexH.call rfl rfl rfl rfl rfl rfl (by exact CloneI0_A _) ?_
        | refine LexH.nil ?_
      refine WpA.loopFor 0 (fun _ => [(1, .ptr H.length 0 0), (2, .ptr H.length 1 0), (15, .int .i64 0), (16, .int .i64 0)]) (fun _ => H ++ [.cells (Oct.mk tg bs []).cells, .cells [.int .u8 0, .sl .full 0 [], .sl .full 0 []]]) (fun _ => True) trivial ⟨rfl, rfl, rfl, rfl, trivial⟩ rfl (fun i hi _ => by omega) (fun _ => ?_)
      repeat' first
        | refine WpA.seq ?_
        | refine WpA.region ?_
        | refine WpOps.op _ rfl rfl rfl rfl rfl ?_
        | refine WpOps.store rfl rfl rfl rfl rfl rfl rfl rfl rfl rfl ?_
        | refine WpA.exit ?_
        | refine WpOps.nil ?_
        | refine WpA.ret ?_
        | refine WpA.condF rfl ?_
      exact retK.ok rfl rfl rfl (Oct.bdA _ _)
    · have hI : ∀ b1 b2, CallsA E 87 [.sl .no 3 (Oct.cellsL is)] (H ++ [b1, b2]) (fun x H' => H' = H ++ ([b1, b2] ++ [.cells (Oct.cellsL is).flatten]) ∧ x = .ret (.os H.length 2 0 3 is.length)) := fun b1 b2 => by
        have := CloneI_A (Oct.cellsL is) H.length 2 (H ++ [b1, b2]) (by simp) (by rw [cellsL_map]; simpa using he) (by rw [cellsL_length]; omega)
        rw [cellsL_length] at this
        refine this.mono ?_
        rintro e H' ⟨rfl, rfl⟩
        exact ⟨List.append_assoc _ _ _, rfl⟩
      refine .enter Tryd.func72 rfl rfl rfl 29 Tryd.ntmps72 (Nat.le_of_ble_eq_true rfl) ?_
      repeat' first
        | refine WpA.drawI [H.length + 0] [0, 4, 0, 0, 4, 3, 0, 2, 0, 2] (by kernel_rfl) (by kernel_rfl) ?_
        | refine WpA.seq ?_
        | refine WpA.region ?_
        | refine WpOps.op _ rfl rfl rfl rfl rfl ?_
        | refine WpOps.box _ rfl rfl rfl rfl rfl ?_
        | refine WpOps.alloc _ rfl rfl rfl rfl rfl rfl ?_
        | (refine LexH.call3 rfl rfl rfl rfl rfl rfl (by exact hI _ _) Like.app ?_)
        | refine WpA.block ?_
        | refine WpOps.nil ?_
        | refine LexH.op0 _ rfl rfl rfl rfl rfl (fun _ => rfl) ?_
        | refine LexH.load4 _ rfl rfl rfl rfl rfl rfl (by simp) rfl rfl rfl rfl ?_
        | refine LexH.store rfl rfl rfl rfl rfl rfl rfl rfl rfl rfl rfl ?_
        | refine LexH.call0 rfl rfl rfl rfl rfl rfl (fun _ => by exact hB _) ?_
        | refine LexH.nil ?_
      refine WpA.loopG is.length (fun i => [(1, .ptr H.length 0 0), (2, .ptr H.length 1 0), (14, .os H.length 2 0 3 is.length), (15, .int .i64 (is.length : Nat)), (16, .int .i64 (i : Nat))])
        (fun _ => H ++ [.cells [u8 tg, .sl .no 1 (bs.map byteRow), .os H.length 2 0 3 is.length], .cells [.int .u8 0, .sl .full 0 [], .sl .full 0 []], .cells (Oct.cellsL is).flatten]) (fun _ => True) trivial ⟨rfl, rfl, rfl, rfl, rfl, trivial⟩ rfl (fun _ _ => rfl) (fun _ _ _ => TrOk.refl _) (fun i hi _ => ?_) (fun i hi _ => ?_) (fun _ => ?_) (fun _ => ⟨rfl, rfl, rfl, rfl, rfl, trivial⟩)
      · exact ⟨.ptr (by simp), .ptr (by simp), .os (by simp), .int, .int, trivial⟩
      · have hfl := flat_len is
        have hle : Nat.ble (0 + ((i : Nat) : Int).toNat * 3 + 3) (Oct.cellsL is).flatten.length = true := by rw [Int.toNat_natCast, hfl]; simp; omega
        have hg : ((Oct.cellsL is).flatten.drop (0 + ((i : Nat) : Int).toNat * 3)).take 3 = (is[i]).cells := by rw [Int.toNat_natCast, Nat.zero_add]; exact flat_get hi
        have hput : putA (Oct.cellsL is).flatten (0 + ((i : Nat) : Int).toNat * 3) (is[i]).cells = (Oct.cellsL is).flatten := putA_same (Nat.le_refl 3 |> fun _ => (by decide : 2 ≤ 3)) hg
        have hld : (bif Nat.ble (0 + ((i : Nat) : Int).toNat * 3 + 3) (Oct.cellsL is).flatten.length then varA t92 ((Oct.cellsL is).flatten.drop (0 + ((i : Nat) : Int).toNat * 3)) else none) = some (.agg (is[i]).cells) := by
          rw [hle, varA_eq]
          show some (AV.agg (((Oct.cellsL is).flatten.drop (0 + ((i : Nat) : Int).toNat * 3)).take 3)) = _
          rw [hg]
        have hin : ((i : Nat) : Int) < (is.length : Nat) := by omega
        repeat' first
          | refine WpA.seq ?_
          | refine WpA.region ?_
          | refine WpOps.op _ rfl rfl rfl rfl rfl ?_
          | refine WpOps.alloc _ rfl rfl rfl rfl rfl rfl ?_
          | refine WpOps.store rfl rfl rfl rfl rfl rfl rfl rfl rfl rfl ?_
          | (refine WpOps.elemO rfl rfl rfl rfl rfl rfl rfl rfl (Int.natCast_nonneg i) hin ?_)
          | (refine WpOps.op _ rfl rfl rfl hld rfl ?_)
          | (refine LexH.p0 rfl rfl rfl rfl (fun H0 => .elemO rfl rfl rfl rfl rfl (Int.natCast_nonneg i) hin) ?_)
          | (refine LexH.store rfl rfl rfl rfl rfl rfl rfl rfl rfl rfl hle ?_)
          | refine WpA.block ?_
          | refine WpA.exit ?_
          | refine WpOps.nil ?_
          | refine WpA.ret ?_
          | refine WpA.skip ?_
          | refine WpA.cond _ rfl (fun h => ?_) (fun h => ?_)
          | refine WpA.drawC (by kernel_rfl) (by kernel_rfl) ?_
          | refine LexH.op0 _ rfl rfl rfl rfl rfl (fun _ => rfl) ?_
          | refine LexH.op1 _ rfl rfl rfl rfl rfl rfl ?_
          | refine LexH.call rfl rfl rfl rfl rfl rfl (by exact ih i hi _) ?_
          | refine LexH.nil ?_
        · refine ⟨trivial, ⟨rfl, rfl, rfl, rfl, congrArg (AV.int .i64) ?_, trivial⟩, [.cells (is[i]).cells], ?_⟩
          · show IntKind.i64.wrap ((i : Int) + 1) = _
            rw [wrap64 (by omega) (by omega)]
            omega
          · rw [hput]
            exact grow rfl
        · simp at h
          omega
      · refine WpA.freezeC (i := 0) (q := 2) (j := 2) rfl rfl rfl rfl (by rw [flat_len]; omega) ?_
        rw [List.drop_zero, chunk_cells]
        repeat' first
          | refine WpA.seq ?_
          | refine WpA.region ?_
          | refine WpOps.op _ rfl rfl rfl rfl rfl ?_
          | refine WpOps.store rfl rfl rfl rfl rfl rfl rfl rfl rfl rfl ?_
          | refine WpA.block ?_
          | refine WpA.exit ?_
          | refine WpOps.nil ?_
          | refine WpA.ret ?_
          | refine WpA.skip ?_
          | refine WpA.cond _ rfl (fun h => ?_) (fun h => ?_)
        · simp at h
        · exact retK.ok rfl rfl rfl (Oct.bdA _ (.mk tg bs is))
termination_by o => SizeOf.sizeOf o
decreasing_by exact sizeOf_get h
end Go.Gp.Tryd

/- The octet codec: lists, and what is read off values. -/
namespace Go.Gp.Tryd
open Go.Proofs
set_option linter.unusedVariables false
set_option linter.unusedSimpArgs false
set_option maxHeartbeats 4000000
set_option maxRecDepth 100000

theorem Seq_A (t : UInt8) (os : List Oct) (H : List AObj) (hs : (Oct.mk t [] os).size ≤ 1000000000000) : CallsA E 46 [u8 t, .sl .no 3 (Oct.cellsL os)] H (Is H (.agg (Oct.mk t [] os).cells)) := by
  refine .enter Tryd.func46 rfl rfl rfl 9 Tryd.ntmps46 (Nat.le_of_ble_eq_true rfl) ?_
  have hT : ∀ H, CallsA E 72 [.agg [u8 t, .sl .full 0 [], .sl .no 3 (Oct.cellsL os)]] H (Is H (.agg (Oct.mk t [] os).cells)) := fun H => by
    have h := Twin_A (.mk t [] os) H hs
    exact CallsA.subL (vs := [.agg (Oct.mk t [] os).cells]) ⟨Sub.agg (vs := (Oct.mk t [] os).cells) ⟨Sub.refl _, Sub.empty, Sub.refl _, trivial⟩, trivial⟩ h
  repeat' first
    | refine WpA.seq ?_
    | refine WpA.region ?_
    | refine WpOps.op _ rfl rfl rfl rfl rfl ?_
    | refine WpOps.alloc _ rfl rfl rfl rfl rfl rfl ?_
    | refine WpOps.store rfl rfl rfl rfl rfl rfl rfl rfl rfl rfl ?_
    | refine WpOps.build _ rfl rfl rfl rfl rfl ?_
    | (refine WpOps.call rfl rfl rfl rfl rfl (by exact hT _) ?_; rintro _ _ ⟨rfl, rfl⟩)
    | refine WpOps.nil ?_
    | refine WpA.ret ?_
  exact retK.ok rfl rfl rfl (Oct.bdA _ _)

/-- Bytes as a number, the highest first. -/
def beVal (x : Nat) : List UInt8 → Nat
  | [] => x
  | b :: r => beVal (256 * x + b.toNat) r

theorem beVal_lt : ∀ (bs : List UInt8) (x k : Nat), x < 2 ^ k → beVal x bs < 2 ^ (k + 8 * bs.length)
  | [], x, k, h => by simpa [beVal] using h
  | b :: r, x, k, h => by
    have hb := b.toNat_lt
    have := beVal_lt r (256 * x + b.toNat) (k + 8) (by rw [Nat.pow_add]; omega)
    rw [beVal, List.length_cons, show k + 8 * (r.length + 1) = k + 8 + 8 * r.length from by omega]
    exact this
theorem beVal_append (x : Nat) : ∀ (as' bs : List UInt8), beVal x (as' ++ bs) = beVal (beVal x as') bs
  | [], bs => rfl
  | a :: r, bs => beVal_append _ r bs
theorem beVal_take {bs : List UInt8} {i : Nat} (h : i < bs.length) : beVal 0 (bs.take (i + 1)) = 256 * beVal 0 (bs.take i) + (bs[i]).toNat := by
  rw [List.take_succ_eq_append_getElem h, beVal_append]; rfl

def readNum (o : Oct) (t : UInt8) (most : Nat) : Nat × Nat :=
  if o.tag = t ∧ o.items.length = 0 ∧ o.bs.length ≤ 8 ∧ o.bs.head? ≠ some 0 ∧ beVal 0 o.bs ≤ most then (beVal 0 o.bs, 0) else (0, 12)

theorem beVal_le8 {bs : List UInt8} (h : bs.length ≤ 8) : beVal 0 bs < 18446744073709551616 := by
  have h1 := beVal_lt bs 0 0 (by decide)
  have h2 : 2 ^ (0 + 8 * bs.length) ≤ 2 ^ 64 := Nat.pow_le_pow_right (by decide) (by omega)
  exact Nat.lt_of_lt_of_le h1 h2

theorem ReadNum_A (o : Oct) (t : UInt8) (most : Nat) (H : List AObj) : CallsA E 54 [.agg o.cells, u8 t, .int .u64 (most : Nat)] H (Is H (.tup [.int .u64 ((readNum o t most).1 : Nat), .int .i64 ((readNum o t most).2 : Nat)])) := by
  have hlen : (Oct.cellsL o.items).length = o.items.length := cellsL_length o.items
  have bad : ¬ (o.tag = t ∧ o.items.length = 0 ∧ o.bs.length ≤ 8 ∧ o.bs.head? ≠ some 0 ∧ beVal 0 o.bs ≤ most) → readNum o t most = (0, 12) := fun h => by
    rw [readNum, if_neg h]
  have bd : ∀ n (x y : Int), Bd n (.tup [.int .u64 x, .int .i64 y]) := fun n x y => .tup fun e he => by
    simp only [List.mem_cons, List.not_mem_nil, or_false] at he
    rcases he with rfl | rfl <;> exact .int
  have hhd : decide (((o.bs.map byteRow).length : Int) > 0) = true → (o.bs.map byteRow)[(0 : Int).toNat]? = some (byteRow (o.bs.headD 0)) := fun h => by
    cases hb : o.bs with
    | nil => rw [hb] at h; simp at h
    | cons b r => rfl
  have hz : ∀ b : UInt8, (((b.toNat : Nat) : Int) == 0) = (b == 0) := fun b => by
    rw [Bool.eq_iff_iff]; simp only [beq_iff_eq]
    exact ⟨fun h => UInt8.toNat_inj.1 (by show b.toNat = 0; omega), fun h => by rw [h]; rfl⟩
  have hh : ∀ l : List UInt8, l.head? = some 0 ↔ 0 < l.length ∧ l.headD 0 = 0 := fun l => by cases l <;> simp
  refine .enter Tryd.func54 rfl rfl rfl 57 Tryd.ntmps54 (Nat.le_of_ble_eq_true rfl) ?_
  repeat' first
    | refine WpA.seq ?_
    | refine WpA.region ?_
    | refine WpOps.op _ rfl rfl rfl rfl rfl ?_
    | refine WpOps.box _ rfl rfl rfl rfl rfl ?_
    | refine WpOps.skip rfl rfl rfl ?_
    | refine WpOps.elem (byteRow (o.bs.headD 0)) rfl rfl rfl rfl rfl rfl rfl rfl rfl (by decide) (hhd (by assumption)) ?_
    | refine WpOps.gsplit _ rfl rfl rfl (fun h => ?_) (fun h => ?_)
    | refine WpA.block ?_
    | refine WpOps.nil ?_
    | refine WpA.ret ?_
    | refine WpA.skip ?_
    | refine WpA.condT rfl ?_
    | refine WpA.condF rfl ?_
    | refine WpA.cond _ rfl (fun h => ?_) (fun h => ?_)
  all_goals simp only [cond_true, cond_false, List.length_map, hlen, u8_bne, hz, Bool.not_eq_true', Bool.not_eq_false', beq_iff_eq, beq_eq_false_iff_ne, decide_eq_true_eq, decide_eq_false_iff_not, ne_eq] at *
  any_goals
    rw [bad (by rintro ⟨h1, h2, h3, h4, h5⟩; rw [hh] at h4; first | exact absurd h1 (by assumption) | omega | (exact h4 ⟨by omega, by assumption⟩))]
    exact retK.ok rfl rfl rfl (bd _ _ _)
  all_goals
    have hgood : o.tag = t ∧ o.items.length = 0 ∧ o.bs.length ≤ 8 ∧ o.bs.head? ≠ some 0 := by
      rw [ne_eq, hh]
      refine ⟨by assumption, by omega, by omega, ?_⟩
      rintro ⟨h1, h2⟩
      first | omega | (revert h2; assumption)
    have h8 := hgood.2.2.1
    have hv : ∀ i, i < o.bs.length → beVal 0 (o.bs.take i) < 72057594037927936 := fun i hi => by
      have h1 := beVal_lt (o.bs.take i) 0 0 (by decide)
      have h2 : 2 ^ (0 + 8 * (o.bs.take i).length) ≤ 2 ^ 56 := Nat.pow_le_pow_right (by decide) (by rw [List.length_take]; omega)
      exact Nat.lt_of_lt_of_le h1 h2
    refine WpA.loopFor o.bs.length (fun i => [(2, .int .u64 (most : Nat)), (8, .int .u64 (beVal 0 (o.bs.take i) : Nat)), (41, .sl .no 1 (o.bs.map byteRow)), (42, .int .i64 (o.bs.length : Nat)), (43, .int .i64 (i : Nat))])
      (fun _ => H ++ [.cells o.cells]) (fun _ => True) trivial ⟨rfl, rfl, rfl, rfl, rfl, trivial⟩ rfl (fun i hi _ => ?_) (fun _ => ?_)
    · have hc : (o.bs.map byteRow)[((i : Nat) : Int).toNat]? = some (byteRow o.bs[i]) := by rw [Int.toNat_natCast, List.getElem?_map, List.getElem?_eq_getElem hi]; rfl
      have hvi := hv i hi
      have hb := (o.bs[i]).toNat_lt
      repeat' first
        | refine WpA.seq ?_
        | refine WpA.region ?_
        | refine WpOps.op _ rfl rfl rfl rfl rfl ?_
        | refine WpOps.sh _ rfl rfl rfl rfl rfl ?_
        | refine WpOps.elem (byteRow o.bs[i]) rfl rfl rfl rfl rfl rfl rfl rfl rfl (Int.natCast_nonneg i) hc ?_
        | refine WpA.block ?_
        | refine WpA.exit ?_
        | refine WpOps.nil ?_
        | refine WpA.ret ?_
        | refine WpA.skip ?_
        | refine WpA.cond _ rfl (fun h => ?_) (fun h => ?_)
      · refine ⟨trivial, ⟨rfl, congrArg (AV.int .u64) ?_, rfl, rfl, congrArg (AV.int .i64) ?_, trivial⟩, rfl⟩
        · have e1 : IntKind.u64.wrap ((beVal 0 (o.bs.take i) : Int) * 2 ^ min 8 IntKind.u64.bits) = ((256 * beVal 0 (o.bs.take i) : Nat) : Int) := by
            show IntKind.u64.wrap ((beVal 0 (o.bs.take i) : Int) * 256) = _
            rw [wrapu64 (by omega) (by omega)]; omega
          show IntKind.u64.wrap ((BitVec.ofInt 64 (IntKind.u64.wrap ((beVal 0 (o.bs.take i) : Int) * 2 ^ min 8 IntKind.u64.bits)) ||| BitVec.ofInt 64 (IntKind.u64.wrap ((o.bs[i]).toNat : Int))).toNat : Int) = _
          rw [e1, wrapu64 (x := ((o.bs[i]).toNat : Int)) (by omega) (by omega), or_byte hb (by omega), beVal_take hi, wrapu64 (by omega) (by omega)]
        · show IntKind.i64.wrap ((i : Int) + 1) = _
          rw [wrap64 (by omega) (by omega)]
          omega
      all_goals
        exfalso
        simp only [decide_eq_false_iff_not] at *
        omega
    · repeat' first
        | refine WpA.seq ?_
        | refine WpA.region ?_
        | refine WpOps.op _ rfl rfl rfl rfl rfl ?_
        | refine WpA.block ?_
        | refine WpA.exit ?_
        | refine WpOps.nil ?_
        | refine WpA.ret ?_
        | refine WpA.skip ?_
        | refine WpA.cond _ rfl (fun h => ?_) (fun h => ?_)
      · simp at h
      · have hm : ¬ beVal 0 o.bs ≤ most := by
          rw [List.take_length] at h
          simp at h; omega
        rw [bad (fun hx => hm hx.2.2.2.2)]
        exact retK.ok rfl rfl rfl (bd _ _ _)
      · have hm : beVal 0 o.bs ≤ most := by
          rw [List.take_length] at h
          simp at h; omega
        rw [readNum, if_pos ⟨hgood.1, hgood.2.1, hgood.2.2.1, hgood.2.2.2, hm⟩, List.take_length]
        exact retK.ok rfl rfl rfl (bd _ _ _)

def seqOk (o : Oct) (t : UInt8) (lo hi : Nat) : Bool := o.tag == t && o.bs.length == 0 && decide (lo ≤ o.items.length) && decide (o.items.length ≤ hi)

theorem ReadSeq_A (o : Oct) (t : UInt8) (lo hi : Nat) (H : List AObj) (hs : o.size ≤ 1000000000000) :
    CallsA E 52 [.agg o.cells, u8 t, .int .i64 (lo : Nat), .int .i64 (hi : Nat)] H (Is H (.tup [.sl .no 3 (if seqOk o t lo hi then Oct.cellsL o.items else []), .int .i64 ((if seqOk o t lo hi then 0 else 12 : Nat) : Int)])) := by
  have hlen : (Oct.cellsL o.items).length = o.items.length := cellsL_length o.items
  have hbs : (o.bs.map byteRow).length = o.bs.length := List.length_map _
  refine .enter Tryd.func52 rfl rfl rfl 37 Tryd.ntmps52 (Nat.le_of_ble_eq_true rfl) ?_
  repeat' first
    | refine WpA.seq ?_
    | refine WpA.region ?_
    | refine WpOps.op _ rfl rfl rfl rfl rfl ?_
    | refine WpOps.box _ rfl rfl rfl rfl rfl ?_
    | refine WpOps.skip rfl rfl rfl ?_
    | (refine WpOps.call rfl rfl rfl rfl rfl (by exact Twin_A o _ hs) ?_; rintro _ _ ⟨rfl, rfl⟩)
    | refine WpOps.gsplit _ rfl rfl rfl (fun h => ?_) (fun h => ?_)
    | refine WpOps.nil ?_
    | refine WpA.ret ?_
    | refine WpA.skip ?_
    | refine WpA.condT rfl ?_
    | refine WpA.cond _ rfl (fun h => ?_) (fun h => ?_)
  all_goals simp only [cond_true, cond_false, hbs, hlen, u8_bne, Bool.not_eq_true', Bool.not_eq_false', beq_iff_eq, beq_eq_false_iff_ne, decide_eq_true_eq, decide_eq_false_iff_not, ne_eq] at *
  any_goals
    rw [show seqOk o t lo hi = false from by
      cases hq : seqOk o t lo hi
      · rfl
      · simp only [seqOk, Bool.and_eq_true, beq_iff_eq, decide_eq_true_eq] at hq
        obtain ⟨⟨⟨h1, h2⟩, h3⟩, h4⟩ := hq
        first | exact absurd h1 (by assumption) | omega]
    exact retK.sub (.inr rfl) rfl (TrOk.refl H) (L := _) rfl rfl (Sub.tup (vs := [.sl .no 3 [], .int .i64 12]) ⟨Sub.empty, Sub.refl _, trivial⟩) (.tup (by intro e he; simp at he; rcases he with rfl | rfl; exact .sl (fun _ _ e => by cases e) (by simp); exact .int)) ⟨rfl, rfl⟩
  · rw [show seqOk o t lo hi = true from by
      simp only [seqOk, Bool.and_eq_true, beq_iff_eq, decide_eq_true_eq]
      exact ⟨⟨⟨by assumption, by omega⟩, by omega⟩, by omega⟩]
    exact retK.ok rfl rfl rfl (.tup (by intro e he; simp at he; rcases he with rfl | rfl; exact .sl (fun _ _ e => by cases e) (Oct.bdL _ _); exact .int))
end Go.Gp.Tryd

/- The octet codec: the reader. -/
namespace Go.Gp.Tryd
open Go.Proofs
set_option linter.unusedVariables false
set_option linter.unusedSimpArgs false
set_option maxHeartbeats 4000000
set_option maxRecDepth 100000

abbrev errV : AV := .iface 129 (.agg [])
abbrev rdr (b : List UInt8) : AObj := .cells [.sl .no 1 (b.map byteRow)]

theorem must_op {ro : Option Nat} {n : Nat} {K : Kont} {t : Slots} {H : List AObj} {ops : Array Oper} {o : Oper} {rest : List Oper} {d : Nat} {f x : Operand} {ats : Array TypeId} (b : Bool)
    (hw : wantedA ops t o = some true) (hd : o.dst = some d) (hdn : Nat.blt d n = true) (hop : o.op = .call { callee := .value f, args := ⟨[x]⟩, argTypes := ats }) (hf : evalA E.G t f = .func 77 []) (hx : evalA E.G t x = .bool b)
    (h1 : b = true → WpOps E ro n ops rest K ((d, .tup []) :: t) H) (h2 : b = false → K (.panic errV) t H) : WpOps E ro n ops (o :: rest) K t H := by
  have hargs : evalL E.G t [x] ++ [] = [.bool b] := by simp [evalL, hx]
  cases b with
  | true =>
    refine WpOps.call hw hd hdn hop hf (by rw [hargs]; exact must_A H) ?_
    rintro _ _ ⟨rfl, rfl⟩
    exact h1 rfl
  | false =>
    refine WpOps.callD hw hd hdn hop hf (P := fun H' => H' = H) (by rw [hargs]; exact mustNot_A H) ?_
    rintro _ rfl
    exact h2 rfl

theorem cut_ok (b : List UInt8) (k m j : Nat) (H : List AObj) (hH : H[m + j]? = some (rdr b)) (hk : k ≤ b.length) (hb : b.length ≤ 1000000000000) :
    CallsA E 91 [.ptr m j 0, .int .i64 (k : Nat)] H (fun e H' => H' = H.set (m + j) (rdr (b.drop k)) ∧ e = .ret (.sl .no 1 ((b.take k).map byteRow))) := by
  have hm := get_lt hH
  have hmust : ∀ H, CallsA E 77 [.bool (decide (((k : Nat) : Int) ≤ ((b.map byteRow).length : Nat)))] H (Is H (.tup [])) := fun H => by
    rw [List.length_map, decide_eq_true (by omega)]; exact must_A H
  refine .enter Tryd.func91 rfl rfl rfl 30 Tryd.ntmps91 (Nat.le_of_ble_eq_true rfl) ?_
  have hk' : k ≤ (b.map byteRow).length := by simpa using hk
  have e1 : ((b.map byteRow).take k).drop 0 = (b.take k).map byteRow := by rw [List.drop_zero, List.map_take]
  have e2 : ((b.map byteRow).take (b.map byteRow).length).drop k = (b.drop k).map byteRow := by rw [List.take_length, List.map_drop]
  repeat' first
    | refine WpA.seq ?_
    | refine WpA.region ?_
    | refine WpOps.op _ rfl rfl rfl rfl rfl ?_
    | (refine WpOps.call rfl rfl rfl rfl rfl (by exact hmust _) ?_; rintro _ _ ⟨rfl, rfl⟩)
    | (refine WpOps.loadOut _ rfl rfl rfl rfl rfl hH rfl rfl rfl ?_)
    | (refine WpOps.storeOut rfl rfl rfl rfl hH rfl rfl rfl rfl rfl ?_)
    | (refine WpOps.slice 0 k rfl rfl rfl rfl rfl rfl rfl rfl ⟨_, _, rfl, Int.natCast_nonneg k, Int.toNat_natCast k⟩ (Nat.zero_le _) hk' ?_)
    | (refine WpOps.slice k _ rfl rfl rfl rfl rfl rfl rfl ⟨_, _, rfl, Int.natCast_nonneg k, Int.toNat_natCast k⟩ rfl hk' (Nat.le_refl _) ?_)
    | refine WpOps.nil ?_
    | refine WpA.ret ?_
  refine retK.sub (H1 := H.set (m + j) _) (.inr rfl) (by simp) (TrOk.set1 (obd_cells ?_)) rfl rfl (r := .sl .no 1 ((b.take k).map byteRow)) ?_ (bd_slB _) ⟨?_, rfl⟩
  · intro a ha
    have := List.mem_singleton.1 ha
    subst this
    show Bd _ (.sl .no 1 (((b.map byteRow).take (b.map byteRow).length).drop k))
    rw [e2]; exact bd_slB _
  · show Sub (.sl .no 1 (((b.map byteRow).take k).drop 0)) _
    rw [e1]; exact Sub.refl _
  · show H.set (m + j) (.cells [.sl .no 1 (((b.map byteRow).take (b.map byteRow).length).drop k)]) = _
    rw [e2]

theorem cut_bad (b : List UInt8) (k m j : Nat) (H : List AObj) (hH : H[m + j]? = some (rdr b)) (hk : b.length < k) :
    CallsA E 91 [.ptr m j 0, .int .i64 (k : Nat)] H (Dies H errV) := by
  have hm := get_lt hH
  have hmust : ∀ H, CallsA E 77 [.bool (decide (((k : Nat) : Int) ≤ ((b.map byteRow).length : Nat)))] H (Dies H errV) := fun H => by
    rw [List.length_map, decide_eq_false (by omega)]; exact mustNot_A H
  refine .enter Tryd.func91 rfl rfl rfl 30 Tryd.ntmps91 (Nat.le_of_ble_eq_true rfl) ?_
  repeat' first
    | refine WpA.seq ?_
    | refine WpA.region ?_
    | refine WpOps.op _ rfl rfl rfl rfl rfl ?_
    | (refine WpOps.callD rfl rfl rfl rfl rfl (by exact hmust _) ?_; rintro _ rfl)
    | (refine WpOps.loadOut _ rfl rfl rfl rfl rfl hH rfl rfl rfl ?_)
    | refine WpOps.nil ?_
    | refine thenK.panic ?_
  exact retK.dies rfl (.iface (.agg (by simp)))

/-- A length at the beginning of bytes, and what is left. -/
def lenOf : List UInt8 → Option (Nat × List UInt8)
  | [] => none
  | c :: r => if c.toNat < 128 then some (c.toNat, r) else
    if 129 ≤ c.toNat ∧ c.toNat ≤ 131 ∧ c.toNat - 128 ≤ r.length ∧ wide (beVal 0 (r.take (c.toNat - 128))) = c.toNat - 127 then some (beVal 0 (r.take (c.toNat - 128)), r.drop (c.toNat - 128)) else none

theorem lenOf_cons (c : UInt8) (r : List UInt8) : lenOf (c :: r) = if c.toNat < 128 then some (c.toNat, r) else
    if 129 ≤ c.toNat ∧ c.toNat ≤ 131 ∧ c.toNat - 128 ≤ r.length ∧ wide (beVal 0 (r.take (c.toNat - 128))) = c.toNat - 127 then some (beVal 0 (r.take (c.toNat - 128)), r.drop (c.toNat - 128)) else none := rfl

/-- The reader is left like this; or it has died. -/
def lenR (b : List UInt8) (m j : Nat) (H : List AObj) : AEnd → List AObj → Prop := fun e H' => match lenOf b with
  | some (n, r) => H' = H.set (m + j) (rdr r) ∧ e = .ret (.int .i64 (n : Nat))
  | none => (∃ r, H' = H.set (m + j) (rdr r)) ∧ e = .panic errV

theorem rdr_obd {n : Nat} (b : List UInt8) : OBd n (rdr b) := obd_cells fun a ha => by
  have := List.mem_singleton.1 ha
  subst this
  exact bd_slB _

theorem length_A (b : List UInt8) (m j : Nat) (H : List AObj) (hH : H[m + j]? = some (rdr b)) (hb : b.length ≤ 1000000000000) :
    CallsA E 92 [.ptr m j 0] H (lenR b m j H) := by
  have hm := get_lt hH
  refine .enter Tryd.func92 rfl rfl rfl 44 Tryd.ntmps92 (Nat.le_of_ble_eq_true rfl) ?_
  cases b with
  | nil =>
    repeat' first
      | refine WpA.seq ?_
      | refine WpA.region ?_
      | refine WpOps.op _ rfl rfl rfl rfl rfl ?_
      | (refine WpOps.callD rfl rfl rfl rfl rfl (by exact cut_bad [] 1 m j _ (by simpa using hH) (by simp)) ?_; rintro _ rfl)
      | refine WpOps.nil ?_
      | refine thenK.panic ?_
    refine retK.dies' rfl rfl (TrOk.refl H) (.iface (.agg (by simp))) ⟨⟨[], ?_⟩, rfl⟩
    rw [set_self hH]
  | cons c r =>
    have hc8 := c.toNat_lt
    have hs : ∀ x, (H ++ []).set (m + j) x = H.set (m + j) x ++ [] := fun x => List.set_append_left _ _ hm
    have hwc : IntKind.i64.wrap (c.toNat : Int) = (c.toNat : Int) := wrap64 (by omega) (by omega)
    have hB0 : (H.set (m + j) (rdr r))[m + j]? = some (rdr r) := List.getElem?_set_self hm
    have hr : r.length ≤ 1000000000000 := by simp only [List.length_cons] at hb; omega
    have hcall := cut_ok (c :: r) 1 m j (H ++ []) (by simpa using hH) (by simp) hb
    by_cases hA : c.toNat < 128
    · have hR : lenR (c :: r) m j H = fun e H' => H' = H.set (m + j) (rdr r) ∧ e = .ret (.int .i64 (c.toNat : Nat)) := by unfold lenR; rw [lenOf_cons, if_pos hA]
      rw [hR]
      have hlt : decide (IntKind.i64.wrap (c.toNat : Int) < 128) = true := by rw [hwc]; simp; omega
      repeat' first
        | refine WpA.seq ?_
        | refine WpA.region ?_
        | refine WpOps.op _ rfl rfl rfl rfl rfl ?_
        | (refine WpOps.call rfl rfl rfl rfl rfl (by exact hcall) ?_; rintro _ _ ⟨rfl, rfl⟩; rw [hs])
        | (refine WpOps.elem (byteRow c) rfl rfl rfl rfl rfl rfl rfl rfl rfl (by decide) rfl ?_)
        | refine WpOps.nil ?_
      refine WpA.cond true (congrArg AV.bool hlt) (fun h => ?_) (fun h => by cases h)
      repeat' first
        | refine WpA.seq ?_
        | refine WpA.region ?_
        | refine WpOps.op _ rfl rfl rfl rfl rfl ?_
        | refine WpOps.nil ?_
        | refine WpA.ret ?_
      exact retK.tag (.inr rfl) (by simp) (TrOk.set1 (rdr_obd _)) rfl rfl .int ⟨rfl, congrArg (fun x => AEnd.ret (.int .i64 x)) hwc⟩
    have hge : decide (IntKind.i64.wrap (c.toNat : Int) < 128) = false := by rw [hwc]; simp; omega
    by_cases hB : 129 ≤ c.toNat ∧ c.toNat ≤ 131 ∧ c.toNat - 128 ≤ r.length
    · obtain ⟨kk, hkk⟩ : ∃ kk, kk = c.toNat - 128 := ⟨_, rfl⟩
      rw [← hkk] at hB
      have hw1 : IntKind.i64.wrap (IntKind.i64.wrap (c.toNat : Int) - 128) = (kk : Int) := by rw [hwc, wrap64 (by omega) (by omega)]; omega
      have hcall2 : ∀ x : Nat, CallsA E 91 [.ptr m j 0, .int .i64 (IntKind.i64.wrap (IntKind.i64.wrap (c.toNat : Int) - 128))] (H.set (m + j) (rdr r) ++ []) _ := fun x => by
        rw [hw1]
        exact cut_ok r kk m j (H.set (m + j) (rdr r) ++ []) (by simpa using hB0) hB.2.2 hr
      have hs2 : ∀ x, (H.set (m + j) (rdr r) ++ []).set (m + j) x = H.set (m + j) x ++ [] := fun x => by rw [List.set_append_left _ _ (by simpa using hm), List.set_set]
      have hR : lenR (c :: r) m j H = fun e H' => match (if wide (beVal 0 (r.take kk)) = c.toNat - 127 then some (beVal 0 (r.take kk), r.drop kk) else none) with
          | some (n, r) => H' = H.set (m + j) (rdr r) ∧ e = .ret (.int .i64 (n : Nat))
          | none => (∃ r, H' = H.set (m + j) (rdr r)) ∧ e = .panic errV := by
        unfold lenR
        rw [lenOf_cons, if_neg hA, ← hkk]
        by_cases hw : wide (beVal 0 (r.take kk)) = c.toNat - 127
        · rw [if_pos ⟨hB.1, hB.2.1, hB.2.2, hw⟩, if_pos hw]
        · rw [if_neg (fun h => hw h.2.2.2), if_neg hw]
      rw [hR]
      have hb2 : (bif decide (IntKind.i64.wrap (c.toNat : Int) ≥ 129) then decide (IntKind.i64.wrap (c.toNat : Int) ≤ 131) else false) = true := by
        rw [hwc]; simp; omega
      repeat' first
        | refine WpA.seq ?_
        | refine WpA.region ?_
        | refine WpOps.op _ rfl rfl rfl rfl rfl ?_
        | (refine WpOps.call rfl rfl rfl rfl rfl (by exact hcall) ?_; rintro _ _ ⟨rfl, rfl⟩; rw [hs])
        | (refine WpOps.elem (byteRow c) rfl rfl rfl rfl rfl rfl rfl rfl rfl (by decide) rfl ?_)
        | refine WpOps.nil ?_
      refine WpA.cond false (congrArg AV.bool hge) (fun h => by cases h) (fun h => ?_)
      repeat' first
        | refine WpA.seq ?_
        | refine WpA.region ?_
        | refine WpOps.op _ rfl rfl rfl rfl rfl ?_
        | refine WpOps.skip rfl rfl rfl ?_
        | (refine must_op _ rfl rfl rfl rfl rfl rfl (fun h => ?_) (fun h => ?_))
        | (refine WpOps.call rfl rfl rfl rfl rfl (by exact hcall2 0) ?_; rintro _ _ ⟨rfl, rfl⟩; rw [hs2])
        | refine WpOps.gsplit _ rfl rfl rfl (fun h => ?_) (fun h => ?_)
        | refine WpA.block ?_
        | refine WpOps.nil ?_
        | refine WpA.skip ?_
        | refine thenK.panic ?_
      · clear hcall hcall2 hs2 hs hb2
        obtain ⟨qq, hqq⟩ : ∃ qq, qq = r.take kk := ⟨_, rfl⟩
        have hql : qq.length = kk := by rw [hqq, List.length_take]; omega
        rw [← hqq]
        refine WpA.loopFor kk (fun i => [(0, .ptr m j 0), (3, .int .i64 (IntKind.i64.wrap (c.toNat : Int))), (4, .int .i64 (beVal 0 (qq.take i) : Nat)), (25, .sl .no 1 (qq.map byteRow)), (26, .int .i64 (kk : Nat)), (27, .int .i64 (i : Nat))])
          (fun _ => H.set (m + j) (rdr (r.drop kk)) ++ []) (fun _ => True) trivial ⟨rfl, rfl, rfl, rfl, ?_, rfl, trivial⟩ rfl (fun i hi _ => ?_) (fun _ => ?_)
        · show AV.int .i64 ((qq.map byteRow).length : Nat) = _
          rw [List.length_map, hql]
        · have hi' : i < qq.length := by omega
          have hc : (qq.map byteRow)[((i : Nat) : Int).toNat]? = some (byteRow qq[i]) := by rw [Int.toNat_natCast, List.getElem?_map, List.getElem?_eq_getElem hi']; rfl
          have hbb := (qq[i]).toNat_lt
          have hv : beVal 0 (qq.take i) < 65536 := by
            have h1 := beVal_lt (qq.take i) 0 0 (by decide)
            have h2 : 2 ^ (0 + 8 * (qq.take i).length) ≤ 2 ^ 16 := Nat.pow_le_pow_right (by decide) (by rw [List.length_take]; omega)
            exact Nat.lt_of_lt_of_le h1 h2
          repeat' first
            | refine WpA.seq ?_
            | refine WpA.region ?_
            | refine WpOps.op _ rfl rfl rfl rfl rfl ?_
            | refine WpOps.sh _ rfl rfl rfl rfl rfl ?_
            | refine WpOps.elem (byteRow qq[i]) rfl rfl rfl rfl rfl rfl rfl rfl rfl (Int.natCast_nonneg i) hc ?_
            | refine WpA.block ?_
            | refine WpA.exit ?_
            | refine WpOps.nil ?_
            | refine WpA.skip ?_
            | refine WpA.cond _ rfl (fun h => ?_) (fun h => ?_)
          · refine ⟨trivial, ⟨rfl, rfl, congrArg (AV.int .i64) ?_, rfl, rfl, congrArg (AV.int .i64) ?_, trivial⟩, rfl⟩
            · have e1 : IntKind.i64.wrap ((beVal 0 (qq.take i) : Int) * 2 ^ min 8 IntKind.i64.bits) = ((256 * beVal 0 (qq.take i) : Nat) : Int) := by
                show IntKind.i64.wrap ((beVal 0 (qq.take i) : Int) * 256) = _
                rw [wrap64 (by omega) (by omega)]; omega
              show IntKind.i64.wrap ((BitVec.ofInt 64 (IntKind.i64.wrap ((beVal 0 (qq.take i) : Int) * 2 ^ min 8 IntKind.i64.bits)) ||| BitVec.ofInt 64 (IntKind.i64.wrap ((qq[i]).toNat : Int))).toNat : Int) = _
              rw [e1, wrap64 (x := ((qq[i]).toNat : Int)) (by omega) (by omega), or_byte hbb (by omega), beVal_take hi', wrap64 (by omega) (by omega)]
            · show IntKind.i64.wrap ((i : Int) + 1) = _
              rw [wrap64 (by omega) (by omega)]
              omega
          all_goals
            exfalso
            simp only [decide_eq_false_iff_not] at *
            omega
        · have htk : qq.take kk = qq := List.take_of_length_le (by omega)
          have hv : beVal 0 qq < 16777216 := by
            have h1 := beVal_lt qq 0 0 (by decide)
            have h2 : 2 ^ (0 + 8 * qq.length) ≤ 2 ^ 24 := Nat.pow_le_pow_right (by decide) (by omega)
            exact Nat.lt_of_lt_of_le h1 h2
          have hwl := wide_le (beVal 0 qq) (by omega)
          rw [htk]
          have hW := fun H => wide_A (beVal 0 qq) H (by omega)
          have e3 : ((((wide (beVal 0 qq) : Nat) : Int)) == IntKind.i64.wrap (IntKind.i64.wrap (c.toNat : Int) - 127)) = decide (wide (beVal 0 qq) = c.toNat - 127) := by
            rw [hwc, wrap64 (by omega) (by omega), Bool.eq_iff_iff]
            simp only [beq_iff_eq, decide_eq_true_eq]
            omega
          repeat' first
            | refine WpA.seq ?_
            | refine WpA.region ?_
            | refine WpOps.op _ rfl rfl rfl rfl rfl ?_
            | (refine WpOps.call rfl rfl rfl rfl rfl (by exact hW _) ?_; rintro _ _ ⟨rfl, rfl⟩)
            | (refine must_op _ rfl rfl rfl rfl rfl (congrArg AV.bool e3) (fun h => ?_) (fun h => ?_))
            | refine WpA.block ?_
            | refine WpA.exit ?_
            | refine WpOps.nil ?_
            | refine WpA.ret ?_
            | refine WpA.skip ?_
            | refine WpA.cond _ rfl (fun h => ?_) (fun h => ?_)
            | refine thenK.panic ?_
          · simp at h
          · have hw : wide (beVal 0 qq) = c.toNat - 127 := by simpa using h
            rw [if_pos hw]
            exact retK.tag (.inr rfl) (by simp) (TrOk.set1 (rdr_obd _)) rfl rfl .int ⟨rfl, rfl⟩
          · have hw : ¬ wide (beVal 0 qq) = c.toNat - 127 := by simpa using h
            rw [if_neg hw]
            exact retK.dies' rfl (by simp) (TrOk.set1 (rdr_obd _)) (.iface (.agg (by simp))) ⟨⟨_, rfl⟩, rfl⟩
      all_goals
        exfalso
        simp only [hwc, decide_eq_true_eq, decide_eq_false_iff_not, cond_true, cond_false] at *
        first | omega | contradiction
    · have hR : lenR (c :: r) m j H = fun e H' => (∃ r, H' = H.set (m + j) (rdr r)) ∧ e = .panic errV := by
        unfold lenR
        rw [lenOf_cons, if_neg hA, if_neg (fun h => hB ⟨h.1, h.2.1, h.2.2.1⟩)]
      rw [hR]
      have hcb : ∀ H, H[m + j]? = some (rdr r) → (c.toNat : Int) ≥ 129 → (c.toNat : Int) ≤ 131 → CallsA E 91 [.ptr m j 0, .int .i64 (IntKind.i64.wrap (IntKind.i64.wrap (c.toNat : Int) - 128))] H (Dies H errV) := fun H hH h1 h2 => by
        have : IntKind.i64.wrap (IntKind.i64.wrap (c.toNat : Int) - 128) = ((c.toNat - 128 : Nat) : Int) := by rw [hwc, wrap64 (by omega) (by omega)]; omega
        rw [this]
        exact cut_bad r _ m j H hH (by omega)
      repeat' first
        | refine WpA.seq ?_
        | refine WpA.region ?_
        | refine WpOps.op _ rfl rfl rfl rfl rfl ?_
        | (refine WpOps.call rfl rfl rfl rfl rfl (by exact hcall) ?_; rintro _ _ ⟨rfl, rfl⟩; rw [hs])
        | (refine WpOps.elem (byteRow c) rfl rfl rfl rfl rfl rfl rfl rfl rfl (by decide) rfl ?_)
        | refine WpOps.nil ?_
      refine WpA.cond false (congrArg AV.bool hge) (fun h => by cases h) (fun h => ?_)
      repeat' first
        | refine WpA.seq ?_
        | refine WpA.region ?_
        | refine WpOps.op _ rfl rfl rfl rfl rfl ?_
        | refine WpOps.skip rfl rfl rfl ?_
        | (refine must_op _ rfl rfl rfl rfl rfl rfl (fun h => ?_) (fun h => ?_))
        | (refine WpOps.callD rfl rfl rfl rfl rfl (by exact hcb _ (by simpa using hB0) (by simp [hwc] at *; omega) (by simp [hwc] at *; omega)) ?_; rintro _ rfl)
        | refine WpOps.gsplit _ rfl rfl rfl (fun h => ?_) (fun h => ?_)
        | refine WpOps.nil ?_
        | refine WpA.skip ?_
        | refine thenK.panic ?_
      all_goals first
        | exact retK.dies' rfl (by simp) (TrOk.set1 (rdr_obd _)) (.iface (.agg (by simp))) ⟨⟨r, rfl⟩, rfl⟩
        | (exfalso; simp only [hwc, decide_eq_true_eq, decide_eq_false_iff_not, cond_true, cond_false] at *; first | omega | contradiction)
end Go.Gp.Tryd
