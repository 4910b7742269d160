/- Part of a proof: GdY2, GdP8, GdY3, GdP5, GdX2, GdX5, GdY4 -/
import Derived.Test.YtmacdhglhafldaaDoorK15
import Derived.Test.YtmacdhglhafldaaDoorK23

/- The reference of manifests: insert. -/
namespace Go.Gp.Tryd
open Go.Proofs
set_option linter.unusedVariables false
set_option linter.unusedSimpArgs false
set_option maxHeartbeats 4000000
set_option maxRecDepth 100000

def insStep (s : List UInt8) (p : List (List UInt8) × Bool) (x : List UInt8) : List (List UInt8) × Bool := if p.2 = false ∧ lt s x = true then (p.1 ++ [s] ++ [x], true) else (p.1 ++ [x], p.2)
def insSt (l : List (List UInt8)) (s : List UInt8) : List (List UInt8) × Bool := l.foldl (insStep s) ([], false)
def insB (l : List (List UInt8)) (s : List UInt8) : List (List UInt8) := if (insSt l s).2 then (insSt l s).1 else (insSt l s).1 ++ [s]
theorem insSt_snoc (l : List (List UInt8)) (x s : List UInt8) : insSt (l ++ [x]) s = insStep s (insSt l s) x := by rw [insSt, List.foldl_append]; rfl
theorem insSt_len (s : List UInt8) : ∀ l : List (List UInt8), (insSt l s).1.length ≤ l.length + 1 ∧ ((insSt l s).2 = false → (insSt l s).1 = l) := by
  intro l
  have key : ∀ (l : List (List UInt8)) (p : List (List UInt8) × Bool), (l.foldl (insStep s) p).1.length ≤ p.1.length + l.length + (if p.2 then 0 else 1) ∧ ((l.foldl (insStep s) p).2 = false → (l.foldl (insStep s) p).1 = p.1 ++ l ∧ p.2 = false) := by
    intro l
    induction l with
    | nil => intro p; exact ⟨by simp, fun h => ⟨by simp, h⟩⟩
    | cons x l ih =>
      intro p
      rw [List.foldl_cons]
      obtain ⟨h1, h2⟩ := ih (insStep s p x)
      unfold insStep at h1 h2
      by_cases hc : p.2 = false ∧ lt s x = true
      · rw [if_pos hc] at h1 h2
        unfold insStep
        rw [if_pos hc]
        refine ⟨?_, fun h => absurd (h2 h).2 (by simp)⟩
        simp only [List.length_append, List.length_cons, List.length_nil, if_true] at h1
        simp only [List.length_cons, hc.1, Bool.false_eq_true, if_false]
        omega
      · rw [if_neg hc] at h1 h2
        unfold insStep
        rw [if_neg hc]
        refine ⟨?_, fun h => ?_⟩
        · simp only [List.length_append, List.length_cons, List.length_nil] at h1
          simp only [List.length_cons]
          omega
        · obtain ⟨g1, g2⟩ := h2 h
          exact ⟨by rw [g1]; simp, g2⟩
  obtain ⟨h1, h2⟩ := key l ([], false)
  refine ⟨?_, fun h => (h2 h).1.trans (List.nil_append _)⟩
  show (l.foldl (insStep s) ([], false)).1.length ≤ _
  simp at h1
  omega
theorem one_str (s : List UInt8) : ∀ y ∈ [[AV.str s]], ∀ a ∈ y, a.one = true := fun y hy a ha => by
  have := List.mem_singleton.1 hy
  subst this
  have := List.mem_singleton.1 ha
  subst this
  rfl
theorem bd_row (n m j : Nat) (l : List (List UInt8)) (h : m + j < n) : Bd n (.sl (.row m j) 1 (strs l)) := .sl (fun _ _ e => by cases e; exact h) fun x hx e he => by
  obtain ⟨s, _, rfl⟩ := List.mem_map.1 hx
  have := List.mem_singleton.1 he
  subst this
  exact .str
theorem insert_A (l : List (List UInt8)) (s : List UInt8) (H : List AObj) (hl : l.length ≤ 1000000000) : CallsA E 42 [.sl .no 1 (strs l), .str s] H (Is H (.sl .no 1 (strs (insB l s)))) := by
  have hlen := strs_len l
  refine .enter Tryd.func42 rfl rfl rfl 42 Tryd.ntmps42 (Nat.le_of_ble_eq_true rfl) ?_
  refine WpA.seq ?_
  repeat' first
    | refine WpA.region ?_
    | refine WpOps.op _ rfl rfl rfl rfl rfl ?_
    | refine WpOps.nil ?_
  refine WpA.seq ?_
  repeat' first
    | refine WpA.region ?_
    | refine WpOps.op _ rfl rfl rfl rfl rfl ?_
    | refine WpOps.nil ?_
  refine WpA.weak (T := [(0, .sl .no 1 (strs l)), (1, .str s), (5, .sl .full 0 [])]) ⟨rfl, rfl, rfl, trivial⟩ ?_
  show WpA E none 42 _ _ _ (H ++ [])
  refine WpA.adoptS 5 1 rfl ?_
  repeat' first
    | refine WpA.seq ?_
    | refine WpA.region ?_
    | refine WpOps.op _ rfl rfl rfl rfl rfl ?_
    | refine WpA.block ?_
    | refine WpOps.nil ?_
  refine WpA.loopG l.length (fun i => [(0, .sl .no 1 (strs l)), (1, .str s), (5, .sl (.row H.length 0) 1 (strs (insSt (l.take i) s).1)), (6, .bool (insSt (l.take i) s).2), (7, .int .i64 (i : Nat))])
    (fun i => H ++ [.tail (strs (insSt (l.take i) s).1).length 1]) (fun _ => True) trivial ⟨rfl, rfl, rfl, rfl, rfl, trivial⟩ rfl (fun _ _ => by simp) (fun i hi _ => ?_) (fun i hi _ => ⟨bd_strs _ _, .str, bd_row _ _ _ _ (by simp), .bool, .int, trivial⟩) (fun i hi _ => ?_) (fun _ => ?_) (fun _ => ⟨rfl, rfl, rfl, rfl, rfl, trivial⟩)
  · refine TrOk.app fun k o hk => ?_
    rcases k with _ | k
    · injection hk with hk; subst hk; exact .inr obd_tail
    · cases hk
  · have hge : (strs l)[((i : Nat) : Int).toNat]? = some [.str l[i]] := strs_get hi
    have hlt : decide (((i : Nat) : Int) < (((strs l).length : Nat) : Int)) = true := decide_eq_true (by rw [hlen]; omega)
    have hst : insSt (l.take (i + 1)) s = insStep s (insSt (l.take i) s) l[i] := by rw [List.take_succ_eq_append_getElem hi, insSt_snoc]
    have hln := (insSt_len s (l.take i)).1
    rw [List.length_take] at hln
    obtain ⟨out, hout⟩ : ∃ out, (insSt (l.take i) s).1 = out := ⟨_, rfl⟩
    obtain ⟨d, hd⟩ : ∃ d, (insSt (l.take i) s).2 = d := ⟨_, rfl⟩
    obtain ⟨x, hx⟩ : ∃ x, l[i] = x := ⟨_, rfl⟩
    rw [hst, insStep, hout, hd, hx]
    rw [hout] at hln
    rw [hx] at hge
    have hf1 : ((strs out).length + 1) * 16 ≤ 140737488355328 := by rw [strs_len]; omega
    have hf2 : ((strs out ++ [[AV.str s]]).length + 1) * 16 ≤ 140737488355328 := by rw [List.length_append, strs_len]; simp; omega
    have e1 : strs (out ++ [x]) = strs out ++ [[AV.str x]] := by simp [strs]
    have e2 : strs (out ++ [s] ++ [x]) = strs out ++ [[AV.str s]] ++ [[AV.str x]] := by simp [strs]
    obtain ⟨q, hq⟩ : ∃ q, lt s x = q := ⟨_, rfl⟩
    rw [hq]
    have hq' : Op.bytesLess s x = q := hq
    clear hst hout hd hx
    cases d with
    | true =>
      rw [if_neg (by simp), e1]
      repeat' first
        | refine WpA.condT (congrArg AV.bool hlt) ?_
        | (refine WpOps.elem _ rfl rfl rfl rfl rfl rfl rfl rfl rfl (Int.natCast_nonneg i) hge ?_)
        | refine WpA.seq ?_
        | refine WpA.region ?_
        | refine WpOps.op _ rfl rfl rfl rfl rfl ?_
        | refine WpOps.skip rfl rfl rfl ?_
        | (refine WpOps.buildSlice _ rfl rfl rfl rfl rfl rfl rfl rfl rfl rfl rfl ?_)
        | (refine WpOps.appR (ys := [[.str x]]) rfl rfl rfl rfl rfl rfl rfl (fun k h => by cases h) rfl rfl rfl rfl rfl rfl (by exact one_str _) (by exact hf1) ?_)
        | refine WpA.block ?_
        | refine WpOps.nil ?_
        | refine WpA.skip ?_
        | refine WpA.condF rfl ?_
      exact ⟨trivial, ⟨rfl, rfl, rfl, rfl, congrArg (AV.int .i64) (wrap64 (by omega) (by omega)), trivial⟩, [], by rw [List.append_nil]; rfl⟩
    | false =>
      cases q with
      | true =>
        rw [if_pos ⟨rfl, rfl⟩, e2]
        have k1 : ¬ ((bif !false then Op.bytesLess s x else false) = false) := by rw [hq']; decide
        repeat' first
          | refine WpA.condT (congrArg AV.bool hlt) ?_
          | exact absurd (by assumption) k1
          | (refine WpOps.elem _ rfl rfl rfl rfl rfl rfl rfl rfl rfl (Int.natCast_nonneg i) hge ?_)
          | refine WpA.seq ?_
          | refine WpA.region ?_
          | refine WpOps.op _ rfl rfl rfl rfl rfl ?_
          | (refine WpOps.buildSlice _ rfl rfl rfl rfl rfl rfl rfl rfl rfl rfl rfl ?_)
          | (refine WpOps.appR (xs := strs out) (ys := [[.str s]]) rfl rfl rfl rfl rfl rfl rfl (fun k h => by cases h) rfl rfl rfl rfl rfl rfl (by exact one_str _) (by exact hf1) ?_)
          | (refine WpOps.appR (xs := strs out ++ [[.str s]]) (ys := [[.str x]]) rfl rfl rfl rfl rfl rfl rfl (fun k h => by cases h) rfl rfl rfl rfl rfl rfl (by exact one_str _) (by exact hf2) ?_)
          | refine WpA.block ?_
          | refine WpOps.nil ?_
          | refine WpA.skip ?_
          | refine WpA.cond _ rfl (fun h => ?_) (fun h => ?_)
        exact ⟨trivial, ⟨rfl, rfl, rfl, rfl, congrArg (AV.int .i64) (wrap64 (by omega) (by omega)), trivial⟩, [], by rw [List.append_nil]; rfl⟩
      | false =>
        rw [if_neg (by simp), e1]
        have k1 : ¬ ((bif !false then Op.bytesLess s x else false) = true) := by rw [hq']; decide
        repeat' first
          | refine WpA.condT (congrArg AV.bool hlt) ?_
          | exact absurd (by assumption) k1
          | (refine WpOps.elem _ rfl rfl rfl rfl rfl rfl rfl rfl rfl (Int.natCast_nonneg i) hge ?_)
          | refine WpA.seq ?_
          | refine WpA.region ?_
          | refine WpOps.op _ rfl rfl rfl rfl rfl ?_
          | (refine WpOps.buildSlice _ rfl rfl rfl rfl rfl rfl rfl rfl rfl rfl rfl ?_)
          | (refine WpOps.appR (ys := [[.str x]]) rfl rfl rfl rfl rfl rfl rfl (fun k h => by cases h) rfl rfl rfl rfl rfl rfl (by exact one_str _) (by exact hf1) ?_)
          | refine WpA.block ?_
          | refine WpOps.nil ?_
          | refine WpA.skip ?_
          | refine WpA.cond _ rfl (fun h => ?_) (fun h => ?_)
        exact ⟨trivial, ⟨rfl, rfl, rfl, rfl, congrArg (AV.int .i64) (wrap64 (by omega) (by omega)), trivial⟩, [], by rw [List.append_nil]; rfl⟩
  · rw [List.take_length]
    have hlt : decide (((l.length : Nat) : Int) < (((strs l).length : Nat) : Int)) = false := decide_eq_false (by rw [hlen]; omega)
    have hln := (insSt_len s l).1
    rw [insB]
    obtain ⟨out, hout⟩ : ∃ out, (insSt l s).1 = out := ⟨_, rfl⟩
    obtain ⟨d, hd⟩ : ∃ d, (insSt l s).2 = d := ⟨_, rfl⟩
    rw [hout, hd]
    rw [hout] at hln
    have hf1 : ((strs out).length + 1) * 16 ≤ 140737488355328 := by rw [strs_len]; omega
    have e1 : strs (out ++ [s]) = strs out ++ [[AV.str s]] := by simp [strs]
    cases d with
    | true =>
      repeat' first
        | refine WpA.condF (congrArg AV.bool hlt) ?_
        | refine WpA.seq ?_
        | refine WpA.region ?_
        | refine WpOps.op _ rfl rfl rfl rfl rfl ?_
        | refine WpA.exit ?_
        | refine WpOps.nil ?_
        | refine WpA.ret ?_
        | refine WpA.skip ?_
        | refine WpA.condF rfl ?_
      exact retK.sub (.inr rfl) rfl (TrOk.refl H) (L := _) rfl rfl Sub.untag (bd_strs _ _) ⟨rfl, rfl⟩
    | false =>
      rw [if_neg (by decide), e1]
      repeat' first
        | refine WpA.condF (congrArg AV.bool hlt) ?_
        | refine WpA.seq ?_
        | refine WpA.region ?_
        | refine WpOps.op _ rfl rfl rfl rfl rfl ?_
        | (refine WpOps.buildSlice _ rfl rfl rfl rfl rfl rfl rfl rfl rfl rfl rfl ?_)
        | (refine WpOps.appR (ys := [[.str s]]) rfl rfl rfl rfl rfl rfl rfl (fun k h => by cases h) rfl rfl rfl rfl rfl rfl (by exact one_str _) (by exact hf1) ?_)
        | refine WpA.exit ?_
        | refine WpOps.nil ?_
        | refine WpA.ret ?_
        | refine WpA.condT rfl ?_
      exact retK.sub (.inr rfl) rfl (TrOk.refl H) (L := _) rfl rfl Sub.untag (by rw [← e1]; exact bd_strs _ _) ⟨rfl, rfl⟩
end Go.Gp.Tryd

/- Names put into a list one by one: plain facts. -/
namespace Go.Gp.Tryd
open Go.Proofs
set_option linter.unusedVariables false
set_option linter.unusedSimpArgs false
set_option maxHeartbeats 4000000

def insR (s : List UInt8) : List (List UInt8) → List (List UInt8)
  | [] => [s]
  | x :: l => if lt s x = true then s :: x :: l else x :: insR s l
theorem insB_eq (l : List (List UInt8)) (s : List UInt8) : insB l s = insR s l := by
  have fin : ∀ (l : List (List UInt8)) (out : List (List UInt8)),
      (l.foldl (insStep s) (out, true) = (out ++ l, true)) ∧
      (if (l.foldl (insStep s) (out, false)).2 then (l.foldl (insStep s) (out, false)).1 else (l.foldl (insStep s) (out, false)).1 ++ [s]) = out ++ insR s l := by
    intro l
    induction l with
    | nil => intro out; exact ⟨by simp, by simp [insR]⟩
    | cons x l ih =>
      intro out
      have e1 : insStep s (out, true) x = (out ++ [x], true) := by simp [insStep]
      refine ⟨by rw [List.foldl_cons, e1, (ih _).1]; simp, ?_⟩
      rw [List.foldl_cons]
      by_cases h : lt s x = true
      · have e2 : insStep s (out, false) x = (out ++ [s] ++ [x], true) := by simp [insStep, h]
        rw [e2, (ih _).1, insR, if_pos h]
        simp
      · have e2 : insStep s (out, false) x = (out ++ [x], false) := by simp [insStep, h]
        rw [e2, (ih _).2, insR, if_neg h]
        simp
  have := (fin l []).2
  rw [List.nil_append] at this
  exact this
theorem insR_perm (s : List UInt8) : ∀ l, (insR s l).Perm (s :: l)
  | [] => List.Perm.refl _
  | x :: l => by
    unfold insR
    split
    · exact List.Perm.refl _
    · exact ((insR_perm s l).cons x).trans (List.Perm.swap _ _ _)
theorem insR_sorted (s : List UInt8) : ∀ l : List (List UInt8), l.Pairwise (fun x y => x ≤ y) → (insR s l).Pairwise (fun x y => x ≤ y)
  | [], _ => List.pairwise_singleton _ _
  | x :: l, h => by
    obtain ⟨h1, h2⟩ := List.pairwise_cons.1 h
    unfold insR
    split
    · rename_i hlt
      have hsx : s ≤ x := Std.le_of_lt ((lt_iff s x).1 hlt)
      refine List.pairwise_cons.2 ⟨fun y hy => ?_, h⟩
      rcases List.mem_cons.1 hy with rfl | hy
      · exact hsx
      · exact List.le_trans hsx (h1 y hy)
    · rename_i hlt
      have hxs : x ≤ s := List.not_lt.1 fun hc => hlt ((lt_iff s x).2 hc)
      refine List.pairwise_cons.2 ⟨fun y hy => ?_, insR_sorted s l h2⟩
      rcases List.mem_cons.1 ((insR_perm s l).mem_iff.1 hy) with rfl | hy
      · exact hxs
      · exact h1 y hy
theorem foldIns (xs : List (List UInt8)) : xs.foldl insB [] = sortB xs := by
  have key : ∀ (xs acc : List (List UInt8)), acc.Pairwise (fun x y => x ≤ y) → (xs.foldl insB acc).Pairwise (fun x y => x ≤ y) ∧ (xs.foldl insB acc).Perm (xs ++ acc) := by
    intro xs
    induction xs with
    | nil => intro acc h; exact ⟨h, List.Perm.refl _⟩
    | cons x xs ih =>
      intro acc h
      rw [List.foldl_cons, insB_eq]
      obtain ⟨g1, g2⟩ := ih _ (insR_sorted x acc h)
      exact ⟨g1, g2.trans (((insR_perm x acc).append_left xs).trans List.perm_middle)⟩
  obtain ⟨h1, h2⟩ := key xs [] List.Pairwise.nil
  rw [List.append_nil] at h2
  exact sortB_unique h2 h1
theorem sorted_names {m : Man} (h : check m = 0) : (fnames m.fs).Pairwise fun x y => lt x y = true := by
  have hs := check_ok h
  refine List.pairwise_iff_getElem.2 fun a b ha hb hab => ?_
  have ha' : a < m.fs.length := by rw [fnames, List.length_map] at ha; exact ha
  have hb' : b < m.fs.length := by rw [fnames, List.length_map] at hb; exact hb
  have := hs a b hab hb'
  rw [nm_eq ha', nm_eq hb'] at this
  simpa only [fnames, List.getElem_map] using this
theorem sortB_sub {m : Man} (h : check m = 0) (p : File → Bool) : sortB (fnames (m.fs.filter p)) = fnames (m.fs.filter p) := by
  refine (sortB_unique (List.Perm.refl _) ?_).symm
  have hs : (fnames (m.fs.filter p)).Sublist (fnames m.fs) := (List.filter_sublist).map _
  exact ((sorted_names h).sublist hs).imp fun h => Std.le_of_lt ((lt_iff _ _).1 h)

def inI (fs : List File) (y : List UInt8) : Int := match fs.findIdx? (fun f => f.name == y) with | some k => (k : Nat) | none => -1
theorem inI_neg (fs : List File) (y : List UInt8) : (y ∉ fnames fs ∧ inI fs y = -1) ∨ (y ∈ fnames fs ∧ ∃ k : Nat, inI fs y = (k : Nat)) := by
  unfold inI
  cases h : fs.findIdx? (fun f => f.name == y) with
  | none =>
    left
    refine ⟨fun hm => ?_, rfl⟩
    obtain ⟨f, hf, e⟩ := List.mem_map.1 hm
    have := List.findIdx?_eq_none_iff.1 h f hf
    rw [e] at this; simp at this
  | some k =>
    right
    obtain ⟨hk, h1, _⟩ := List.findIdx?_eq_some_iff_getElem.1 h
    exact ⟨List.mem_map.2 ⟨fs[k], List.getElem_mem hk, by simpa using h1⟩, k, rfl⟩
theorem in2_A (m : Man) (y : List UInt8) (H : List AObj) (hb : m.fs.length ≤ 1000000000000000) (hc : check m = 0) : CallsA E 43 [m.av .no, .str y] H (Is H (.int .i64 (inI m.fs y))) := by
  have hs := check_ok hc
  refine (in_A m y H hb).mono ?_
  rintro e H' ⟨h1, p, h2, h3⟩
  refine ⟨h1, ?_⟩
  rw [h2]
  have hp : p = inI m.fs y := by
    rcases h3 with ⟨k, rfl, hk, hn⟩ | ⟨rfl, hn⟩
    · have : m.fs.findIdx? (fun f => f.name == y) = some k := List.findIdx?_eq_some_iff_getElem.2 ⟨hk, by rw [nm_eq hk] at hn; simpa using hn, fun j hj => by
        have hjl : j < m.fs.length := by omega
        have h4 := hs j k hj hk
        rw [hn, nm_eq hjl] at h4
        have h5 : m.fs[j].name ≠ y := fun e => by rw [e, lt_irrefl] at h4; cases h4
        simpa using h5⟩
      rw [inI, this]
    · have : m.fs.findIdx? (fun f => f.name == y) = none := List.findIdx?_eq_none_iff.2 fun f hf => by
        obtain ⟨j, hj⟩ := List.getElem?_of_mem hf
        obtain ⟨h1, rfl⟩ := List.getElem?_eq_some_iff.1 hj
        have := hn j h1
        rw [nm_eq h1] at this
        simpa using this
      rw [inI, this]
  rw [hp]
theorem bytesAt_at {fs : List NFile} {y : List UInt8} {k : Nat} (hk : k < fs.length) (h1 : fs[k].name = y) (h2 : ∀ j (hj : j < k), (fs[j]'(by omega)).name ≠ y) : bytesAt fs y = fs[k].bytes := by
  have : fs.find? (fun f => f.name == y) = some fs[k] := List.find?_eq_some_iff_getElem.2 ⟨by simpa using h1, k, hk, rfl, fun j hj => by simpa using h2 j hj⟩
  rw [bytesAt, this]; rfl
end Go.Gp.Tryd

/- The reference of manifests: Match. -/
namespace Go.Gp.Tryd
open Go.Proofs
set_option linter.unusedVariables false
set_option linter.unusedSimpArgs false
set_option maxHeartbeats 4000000
set_option maxRecDepth 100000

def foldN (xs : List (List UInt8)) : List (List UInt8) := xs.foldl insB []
theorem foldN_snoc (xs : List (List UInt8)) (s : List UInt8) : foldN (xs ++ [s]) = insB (foldN xs) s := by rw [foldN, List.foldl_append]; rfl
theorem foldN_len (xs : List (List UInt8)) : (foldN xs).length = xs.length := by rw [foldN, foldIns]; exact (sortB_perm xs).length_eq
def pickN (fs : List File) (p : File → Bool) : List (List UInt8) := foldN (fnames (fs.filter p))
theorem pickN_snoc (fs : List File) (f : File) (p : File → Bool) : pickN (fs ++ [f]) p = if p f = true then insB (pickN fs p) f.name else pickN fs p := by
  rw [pickN, List.filter_append, fnames, List.map_append]
  by_cases h : p f = true
  · rw [if_pos h, List.filter_cons, if_pos h]
    exact foldN_snoc _ _
  · rw [if_neg h, List.filter_cons, if_neg h]
    simp [pickN, fnames]
theorem pickN_len (fs : List File) (p : File → Bool) : (pickN fs p).length ≤ fs.length := by
  rw [pickN, foldN_len, fnames, List.length_map]; exact List.length_filter_le _ _
def extraN (m : Man) (fs : List NFile) : List (List UInt8) := foldN ((names fs).filter fun k => !(fnames m.fs).contains k)
theorem extraN_snoc (m : Man) (fs : List NFile) (f : NFile) : extraN m (fs ++ [f]) = if f.name ∉ fnames m.fs then insB (extraN m fs) f.name else extraN m fs := by
  rw [extraN, names, List.map_append, List.filter_append]
  by_cases h : f.name ∈ fnames m.fs
  · rw [if_neg (by simpa using h)]
    have : ([f].map (·.name)).filter (fun k => !(fnames m.fs).contains k) = [] := by
      simp [h]
    rw [this, List.append_nil]; rfl
  · rw [if_pos h]
    have : ([f].map (·.name)).filter (fun k => !(fnames m.fs).contains k) = [f.name] := by
      simp [h]
    rw [this]
    exact foldN_snoc _ _
theorem extraN_len (m : Man) (fs : List NFile) : (extraN m fs).length ≤ fs.length := by
  rw [extraN, foldN_len]
  have := List.length_filter_le (fun k => !(fnames m.fs).contains k) (names fs)
  rw [names, List.length_map] at this
  exact this
def repCells (a b c : List (List UInt8)) : List AV := [.sl .no 1 (strs a), .sl .no 1 (strs b), .sl .no 1 (strs c)]
theorem obd_repC {n : Nat} {a b c : List (List UInt8)} : OBd n (.cells (repCells a b c)) := obd_cells fun x hx => by
  simp only [repCells, List.mem_cons, List.not_mem_nil, or_false] at hx
  rcases hx with rfl | rfl | rfl <;> exact bd_strs _ _
def SumSpec : Prop := ∀ (b : List UInt8) (H : List AObj), b.length ≤ 1000000000 → CallsA E 35 [.sl .no 1 (b.map byteRow)] H (Is H (.agg (hashA (sha b))))

theorem refMatch_A (hsum : SumSpec) (m : Man) (fs : List NFile) (H : List AObj) (hm : m.fs.length ≤ 1000000000) (hl : fs.length ≤ 1000000000) (hb : ∀ f ∈ fs, f.bytes.length ≤ 1000000000) :
    CallsA E 16 [m.av .no, .sl .no 2 (nrows fs)] H (Is H (.tup [(matchR m fs).av, .int .i64 (matchE m fs)])) := by
  have hC := fun H => refCheck_A m H (by omega)
  have hF := fun H => files_A fs H (by omega)
  have hfl := nrows_len fs
  refine .enter Tryd.func16 rfl rfl rfl 95 Tryd.ntmps16 (Nat.le_of_ble_eq_true rfl) ?_
  have hfin : ∀ (k : Int) {t : Slots} {L : List AObj} {xs : List AV}, matchE m fs = k → k ≠ 0 → xs = [.agg [.sl .full 0 [], .sl .full 0 [], .sl .full 0 []], .int .i64 k] → resL L E.T t [.cell 4 40, .tmp 5] = some xs → resN H.length t [.cell 4 40, .tmp 5] = [H.length, H.length] → retK E [.cell 4 40, .tmp 5] H (Is H (.tup [(matchR m fs).av, .int .i64 (matchE m fs)])) .ret t (H ++ L) := fun k t L xs h hk e1 e2 e3 => by
    subst e1; exact retK.sub (.inr rfl) rfl (TrOk.refl H) (L := L) e2 e3 (rep0_sub k) (rep_bd _ _ _) ⟨rfl, by rw [matchR, h, if_neg hk]⟩
  by_cases hc : check m = 0
  · have hmk : matchE m fs = byNameE fs := by rw [matchE, if_pos hc]
    rw [hc] at hC
    by_cases he : byNameE fs = 0
    · have hE : matchE m fs = 0 := by rw [hmk, he]
      have hR : matchR m fs = ⟨fnames (m.fs.filter (missF fs)), fnames (m.fs.filter (wrongF fs)), sortB ((names fs).filter fun k => !(fnames m.fs).contains k)⟩ := by rw [matchR, if_pos hE]
      rw [hE, hR]
      rw [he] at hF
      refine WpA.seq ?_
      repeat' first
        | refine WpA.region ?_
        | refine WpOps.op _ rfl rfl rfl rfl rfl ?_
        | refine WpOps.box _ rfl rfl rfl rfl rfl ?_
        | refine WpOps.alloc _ rfl rfl rfl rfl rfl rfl ?_
        | refine WpOps.nil ?_
      show WpA E none 95 _ _ _ (H ++ [.cells (m.cells .no), .cells [.sl .full 0 [], .sl .full 0 [], .sl .full 0 []]])
      refine WpA.weak (T := [(1, .sl .no 2 (nrows fs)), (2, .ptr H.length 0 0), (4, .ptr H.length 1 0)]) ⟨rfl, rfl, rfl, trivial⟩ ?_
      refine WpA.freezeP (d := 2) (j := 0) rfl rfl ?_
      repeat' first
        | refine WpA.seq ?_
        | refine WpA.region ?_
        | refine WpOps.op _ rfl rfl rfl rfl rfl ?_
        | refine WpOps.alloc _ rfl rfl rfl rfl rfl rfl ?_
        | (refine WpOps.call rfl rfl rfl rfl rfl (by exact hC _) ?_; rintro _ _ ⟨rfl, rfl⟩)
        | (refine WpOps.call rfl rfl rfl rfl rfl (by exact hF _) ?_; rintro _ _ ⟨rfl, rfl⟩)
        | refine WpA.block ?_
        | refine WpOps.nil ?_
        | refine WpA.skip ?_
        | refine WpA.condT rfl ?_
        | refine WpA.condF rfl ?_
      show WpA E none 95 _ _ _ (H ++ [.dead, .cells [.sl .full 0 [], .sl .full 0 [], .sl .full 0 []], .cells [.sl .full 0 [], .sl .full 0 [], .sl .full 0 []]])
      refine WpA.recell (j := 2) (cs' := repCells [] [] []) rfl ⟨Sub.empty, Sub.empty, Sub.empty, trivial⟩ ?_
      have hml : m.fs.length ≤ 200 := (check_good hc).1
      have hrl := rows_length m.fs
      refine WpA.loopG m.fs.length (fun i => [(1, .sl .no 2 (nrows fs)), (2, .rp (m.cells .no)), (4, .ptr H.length 1 0), (7, .ptr H.length 2 0), (8, .int .i64 (i : Nat))])
        (fun i => H ++ [.dead, .cells [.sl .full 0 [], .sl .full 0 [], .sl .full 0 []], .cells (repCells (pickN (m.fs.take i) (missF fs)) (pickN (m.fs.take i) (wrongF fs)) [])]) (fun _ => True) trivial ⟨rfl, rfl, rfl, rfl, rfl, trivial⟩ rfl (fun _ _ => by simp) (fun i hi _ => ?_) (fun i hi _ => ⟨bd_nrows _ _, .rp (fun e he => (by
          simp only [Man.cells, List.mem_cons, List.not_mem_nil, or_false] at he
          rcases he with rfl | rfl | rfl | rfl
          · exact .int
          · exact .int
          · exact .int
          · exact rows_bd _ m.fs)), .ptr (by simp), .ptr (by simp), .int, trivial⟩) (fun i hi _ => ?_) (fun _ => ?_) (fun _ => ⟨rfl, rfl, rfl, rfl, rfl, trivial⟩)
      · refine TrOk.app fun k o hk => ?_
        rcases k with _ | _ | _ | k
        · exact .inl hk
        · exact .inl hk
        · injection hk with hk; subst hk; exact .inr obd_repC
        · cases hk
      · have hlt : decide (((i : Nat) : Int) < (((rows m.fs).length : Nat) : Int)) = true := decide_eq_true (by rw [hrl]; omega)
        have hge : (rows m.fs)[((i : Nat) : Int).toNat]? = some (m.fs[i]).row := rows_get hi
        have e1 : pickN (m.fs.take (i + 1)) (missF fs) = if missF fs m.fs[i] = true then insB (pickN (m.fs.take i) (missF fs)) m.fs[i].name else pickN (m.fs.take i) (missF fs) := by rw [List.take_succ_eq_append_getElem hi, pickN_snoc]
        have e2 : pickN (m.fs.take (i + 1)) (wrongF fs) = if wrongF fs m.fs[i] = true then insB (pickN (m.fs.take i) (wrongF fs)) m.fs[i].name else pickN (m.fs.take i) (wrongF fs) := by rw [List.take_succ_eq_append_getElem hi, pickN_snoc]
        have l1 := pickN_len (m.fs.take i) (missF fs)
        have l2 := pickN_len (m.fs.take i) (wrongF fs)
        rw [List.length_take] at l1 l2
        rw [e1, e2]
        obtain ⟨M, hM⟩ : ∃ M, pickN (m.fs.take i) (missF fs) = M := ⟨_, rfl⟩
        obtain ⟨W, hW⟩ : ∃ W, pickN (m.fs.take i) (wrongF fs) = W := ⟨_, rfl⟩
        obtain ⟨f, hf⟩ : ∃ f, m.fs[i] = f := ⟨_, rfl⟩
        rw [hM, hW, hf]
        rw [hM] at l1
        rw [hW] at l2
        rw [hf] at hge
        have hI1 := fun X => insert_A M f.name X (by omega)
        have hI2 := fun X => insert_A W f.name X (by omega)
        have hAt := fun X => at_A fs f.name X (by omega)
        rcases atI_cases fs f.name with ⟨h1, h2⟩ | ⟨k, hk, h2, h3, h4⟩
        · have hm1 : missF fs f = true := by simp [missF, h1]
          have hw1 : wrongF fs f = false := by simp [wrongF, h1]
          rw [hm1, hw1, if_pos rfl, if_neg (by decide)]
          rw [h2] at hAt
          repeat' first
            | refine WpA.condT (congrArg AV.bool hlt) ?_
            | refine WpA.drawI (id := 12) [H.length + 2] [0, 4, 0, 0, 0, 0, 0, 0, 0, 0, 2] (by kernel_rfl) (by kernel_rfl) ?_
            | (refine WpOps.elem _ rfl rfl rfl rfl rfl rfl rfl rfl rfl (Int.natCast_nonneg i) hge ?_)
            | (refine LexH.elem _ rfl rfl rfl rfl rfl rfl rfl rfl rfl rfl (Int.natCast_nonneg i) hge ?_)
            | refine WpA.seq ?_
            | refine WpA.region ?_
            | refine WpOps.op _ rfl rfl rfl rfl rfl ?_
            | (refine WpOps.call rfl rfl rfl rfl rfl (by exact hAt _) ?_; rintro _ _ ⟨rfl, rfl⟩)
            | refine WpA.block ?_
            | refine WpOps.nil ?_
            | refine WpA.skip ?_
            | refine WpA.condT rfl ?_
            | refine LexH.op0 _ rfl rfl rfl rfl rfl (fun _ => rfl) ?_
            | refine LexH.load4 _ rfl rfl rfl rfl rfl rfl (by simp) rfl rfl rfl rfl ?_
            | refine LexH.store rfl rfl rfl rfl rfl rfl rfl rfl rfl rfl rfl ?_
            | refine LexH.call0 rfl rfl rfl rfl rfl rfl (fun _ => by exact hI1 _) ?_
            | refine LexH.nil ?_
          exact ⟨trivial, ⟨rfl, rfl, rfl, rfl, congrArg (AV.int .i64) (wrap64 (by omega) (by omega)), trivial⟩, [], by rw [List.append_nil]; try rfl⟩
        · have hin : f.name ∈ names fs := by rw [← h3]; exact mem_names (List.getElem_mem hk)
          have hm1 : missF fs f = false := by simp [missF, hin]
          have hw1 : wrongF fs f = !heq (hashOf fs f.name) f := by simp [wrongF, hin]
          rw [hm1, hw1, if_neg (by decide)]
          rw [h2] at hAt
          have hge2 : (nrows fs)[((k : Nat) : Int).toNat]? = some (fs[k]).row := nrows_get hk
          have hS : ∀ X, CallsA E 35 [.sl .no 1 (fs[k].bytes.map byteRow)] X (Is X (.agg (hashOf fs f.name).hash)) := fun X => by
            have := hsum fs[k].bytes X (hb _ (List.getElem_mem hk))
            rw [← bytesAt_at hk h3 h4] at this ⊢
            exact this
          obtain ⟨q, hq⟩ : ∃ q, heq (hashOf fs f.name) f = q := ⟨_, rfl⟩
          have hEq : EqS E (.inl 61) [.agg (hashOf fs f.name).hash] [.agg f.hash] q := by
            have := eqHash (hashOf fs f.name) f
            rwa [hq] at this
          obtain ⟨g, hg⟩ : ∃ g, hashOf fs f.name = g := ⟨_, rfl⟩
          rw [hq]
          rw [hg] at hS hEq
          have k1 : ¬ (decide (((k : Nat) : Int) < 0) = true) := by simp
          cases q with
          | true =>
            rw [if_neg (by decide)]
            repeat' first
              | refine WpA.condT (congrArg AV.bool hlt) ?_
              | (refine WpOps.elem _ rfl rfl rfl rfl rfl rfl rfl rfl rfl (Int.natCast_nonneg i) hge ?_)
              | (refine LexA.elem _ rfl rfl rfl rfl rfl rfl rfl rfl rfl (Int.natCast_nonneg i) hge ?_)
              | (refine LexA.elem _ rfl rfl rfl rfl rfl rfl rfl rfl rfl (Int.natCast_nonneg k) hge2 ?_)
              | (refine LexA.neA rfl rfl rfl rfl rfl rfl keyHash (by exact hEq) ?_)
              | refine WpA.seq ?_
              | refine WpA.region ?_
              | refine WpOps.op _ rfl rfl rfl rfl rfl ?_
              | (refine WpOps.call rfl rfl rfl rfl rfl (by exact hAt _) ?_; rintro _ _ ⟨rfl, rfl⟩)
              | refine WpA.block ?_
              | refine WpOps.nil ?_
              | refine WpA.skip ?_
              | refine WpA.condF rfl ?_
              | refine WpA.draw (by kernel_rfl) ?_
              | refine LexA.op _ rfl rfl rfl rfl rfl ?_
              | refine LexA.call rfl rfl rfl rfl rfl (by exact hS _) ?_
              | refine LexA.nil ?_
            exact ⟨trivial, ⟨rfl, rfl, rfl, rfl, congrArg (AV.int .i64) (wrap64 (by omega) (by omega)), trivial⟩, [], by rw [List.append_nil]; try rfl⟩
          | false =>
            rw [if_pos (by decide)]
            repeat' first
              | refine WpA.condT (congrArg AV.bool hlt) ?_
              | refine WpA.drawI (id := 14) [H.length + 2] [0, 4, 0, 0, 0, 0, 0, 0, 0, 0, 2] (by kernel_rfl) (by kernel_rfl) ?_
              | (refine WpOps.elem _ rfl rfl rfl rfl rfl rfl rfl rfl rfl (Int.natCast_nonneg i) hge ?_)
              | (refine LexH.elem _ rfl rfl rfl rfl rfl rfl rfl rfl rfl rfl (Int.natCast_nonneg i) hge ?_)
              | (refine LexA.elem _ rfl rfl rfl rfl rfl rfl rfl rfl rfl (Int.natCast_nonneg i) hge ?_)
              | (refine LexA.elem _ rfl rfl rfl rfl rfl rfl rfl rfl rfl (Int.natCast_nonneg k) hge2 ?_)
              | (refine LexA.neA rfl rfl rfl rfl rfl rfl keyHash (by exact hEq) ?_)
              | refine WpA.seq ?_
              | refine WpA.region ?_
              | refine WpOps.op _ rfl rfl rfl rfl rfl ?_
              | (refine WpOps.call rfl rfl rfl rfl rfl (by exact hAt _) ?_; rintro _ _ ⟨rfl, rfl⟩)
              | refine WpA.block ?_
              | refine WpOps.nil ?_
              | refine WpA.skip ?_
              | refine WpA.condT rfl ?_
              | refine WpA.condF rfl ?_
              | refine WpA.draw (by kernel_rfl) ?_
              | refine LexA.op _ rfl rfl rfl rfl rfl ?_
              | refine LexA.call rfl rfl rfl rfl rfl (by exact hS _) ?_
              | refine LexH.op0 _ rfl rfl rfl rfl rfl (fun _ => rfl) ?_
              | refine LexH.load4 _ rfl rfl rfl rfl rfl rfl (by simp) rfl rfl rfl rfl ?_
              | refine LexH.store rfl rfl rfl rfl rfl rfl rfl rfl rfl rfl rfl ?_
              | refine LexH.call0 rfl rfl rfl rfl rfl rfl (fun _ => by exact hI2 _) ?_
              | refine LexH.nil ?_
              | refine LexA.nil ?_
            exact ⟨trivial, ⟨rfl, rfl, rfl, rfl, congrArg (AV.int .i64) (wrap64 (by omega) (by omega)), trivial⟩, [], by rw [List.append_nil]; try rfl⟩
      · have hlt : decide (((m.fs.length : Nat) : Int) < (((rows m.fs).length : Nat) : Int)) = false := decide_eq_false (by rw [hrl]; omega)
        rw [List.take_length]
        have eM : pickN m.fs (missF fs) = fnames (m.fs.filter (missF fs)) := by rw [pickN, foldN, foldIns, sortB_sub hc]
        have eW : pickN m.fs (wrongF fs) = fnames (m.fs.filter (wrongF fs)) := by rw [pickN, foldN, foldIns, sortB_sub hc]
        rw [← eM, ← eW]
        obtain ⟨M, hM⟩ : ∃ M, pickN m.fs (missF fs) = M := ⟨_, rfl⟩
        obtain ⟨W, hW⟩ : ∃ W, pickN m.fs (wrongF fs) = W := ⟨_, rfl⟩
        rw [hM, hW]
        repeat' first
          | refine WpA.condF (congrArg AV.bool hlt) ?_
          | refine WpA.seq ?_
          | refine WpA.region ?_
          | refine WpOps.op _ rfl rfl rfl rfl rfl ?_
          | refine WpA.block ?_
          | refine WpA.exit ?_
          | refine WpOps.nil ?_
        refine WpA.loopG fs.length (fun i => [(1, .sl .no 2 (nrows fs)), (2, .rp (m.cells .no)), (4, .ptr H.length 1 0), (7, .ptr H.length 2 0), (10, .int .i64 (i : Nat))])
          (fun i => H ++ [.dead, .cells [.sl .full 0 [], .sl .full 0 [], .sl .full 0 []], .cells (repCells M W (extraN m (fs.take i)))]) (fun _ => True) trivial ⟨rfl, rfl, rfl, rfl, rfl, trivial⟩ rfl (fun _ _ => by simp) (fun i hi _ => ?_) (fun i hi _ => ⟨bd_nrows _ _, .rp (fun e he => (by
            simp only [Man.cells, List.mem_cons, List.not_mem_nil, or_false] at he
            rcases he with rfl | rfl | rfl | rfl
            · exact .int
            · exact .int
            · exact .int
            · exact rows_bd _ m.fs)), .ptr (by simp), .ptr (by simp), .int, trivial⟩) (fun i hi _ => ?_) (fun _ => ?_) (fun _ => ⟨rfl, rfl, rfl, rfl, rfl, trivial⟩)
        · refine TrOk.app fun k o hk => ?_
          rcases k with _ | _ | _ | k
          · exact .inl hk
          · exact .inl hk
          · injection hk with hk; subst hk; exact .inr obd_repC
          · cases hk
        · have hlt : decide (((i : Nat) : Int) < (((nrows fs).length : Nat) : Int)) = true := decide_eq_true (by rw [hfl]; omega)
          have hge : (nrows fs)[((i : Nat) : Int).toNat]? = some (fs[i]).row := nrows_get hi
          have e1 : extraN m (fs.take (i + 1)) = if fs[i].name ∉ fnames m.fs then insB (extraN m (fs.take i)) fs[i].name else extraN m (fs.take i) := by rw [List.take_succ_eq_append_getElem hi, extraN_snoc]
          have l1 := extraN_len m (fs.take i)
          rw [List.length_take] at l1
          rw [e1]
          obtain ⟨X, hX⟩ : ∃ X, extraN m (fs.take i) = X := ⟨_, rfl⟩
          obtain ⟨f, hf⟩ : ∃ f, fs[i] = f := ⟨_, rfl⟩
          rw [hX, hf]
          rw [hX] at l1
          rw [hf] at hge
          have hI3 := fun Y => insert_A X f.name Y (by omega)
          have hIn := fun Y => in2_A m f.name Y (by omega) hc
          rcases inI_neg m.fs f.name with ⟨h1, h2⟩ | ⟨h1, k, h2⟩
          · rw [if_pos h1]
            rw [h2] at hIn
            repeat' first
              | refine WpA.condT (congrArg AV.bool hlt) ?_
              | refine WpA.drawI (id := 19) [H.length + 2] [0, 4, 0, 0, 0, 0, 0, 0, 0, 2] (by kernel_rfl) (by kernel_rfl) ?_
              | (refine LexH.elem _ rfl rfl rfl rfl rfl rfl rfl rfl rfl rfl (Int.natCast_nonneg i) hge ?_)
              | (refine LexA.elem _ rfl rfl rfl rfl rfl rfl rfl rfl rfl (Int.natCast_nonneg i) hge ?_)
              | refine WpA.seq ?_
              | refine WpA.region ?_
              | refine WpOps.op _ rfl rfl rfl rfl rfl ?_
              | refine WpA.block ?_
              | refine WpOps.nil ?_
              | refine WpA.skip ?_
              | refine WpA.condT rfl ?_
              | refine WpA.draw (by kernel_rfl) ?_
              | refine LexA.op _ rfl rfl rfl rfl rfl ?_
              | refine LexA.call rfl rfl rfl rfl rfl (by exact hIn _) ?_
              | refine LexH.op0 _ rfl rfl rfl rfl rfl (fun _ => rfl) ?_
              | refine LexH.load4 _ rfl rfl rfl rfl rfl rfl (by simp) rfl rfl rfl rfl ?_
              | refine LexH.store rfl rfl rfl rfl rfl rfl rfl rfl rfl rfl rfl ?_
              | refine LexH.call0 rfl rfl rfl rfl rfl rfl (fun _ => by exact hI3 _) ?_
              | refine LexH.nil ?_
              | refine LexA.nil ?_
            exact ⟨trivial, ⟨rfl, rfl, rfl, rfl, congrArg (AV.int .i64) (wrap64 (by omega) (by omega)), trivial⟩, [], by rw [List.append_nil]; try rfl⟩
          · rw [if_neg (by simpa using h1)]
            rw [h2] at hIn
            have k1 : ¬ (decide (((k : Nat) : Int) < 0) = true) := by simp
            repeat' first
              | refine WpA.condT (congrArg AV.bool hlt) ?_
              | (refine LexA.elem _ rfl rfl rfl rfl rfl rfl rfl rfl rfl (Int.natCast_nonneg i) hge ?_)
              | refine WpA.seq ?_
              | refine WpA.region ?_
              | refine WpOps.op _ rfl rfl rfl rfl rfl ?_
              | refine WpA.block ?_
              | refine WpOps.nil ?_
              | refine WpA.skip ?_
              | refine WpA.condF rfl ?_
              | refine WpA.draw (by kernel_rfl) ?_
              | refine LexA.op _ rfl rfl rfl rfl rfl ?_
              | refine LexA.call rfl rfl rfl rfl rfl (by exact hIn _) ?_
              | refine LexA.nil ?_
            exact ⟨trivial, ⟨rfl, rfl, rfl, rfl, congrArg (AV.int .i64) (wrap64 (by omega) (by omega)), trivial⟩, [], by rw [List.append_nil]; try rfl⟩
        · have hlt : decide (((fs.length : Nat) : Int) < (((nrows fs).length : Nat) : Int)) = false := decide_eq_false (by rw [hfl]; omega)
          rw [List.take_length]
          have eX : extraN m fs = sortB ((names fs).filter fun k => !(fnames m.fs).contains k) := by rw [extraN, foldN, foldIns]
          rw [← eX]
          obtain ⟨X, hX⟩ : ∃ X, extraN m fs = X := ⟨_, rfl⟩
          rw [hX]
          repeat' first
            | refine WpA.condF (congrArg AV.bool hlt) ?_
            | refine WpA.seq ?_
            | refine WpA.region ?_
            | refine WpOps.op _ rfl rfl rfl rfl rfl ?_
            | refine WpOps.store rfl rfl rfl rfl rfl rfl rfl rfl rfl rfl ?_
            | refine WpA.exit ?_
            | refine WpOps.nil ?_
            | refine WpA.ret ?_
          exact retK.sub (.inr rfl) rfl (TrOk.refl H) (L := _) rfl rfl (Sub.refl _) (rep_bd _ ⟨M, W, X⟩ _) ⟨rfl, rfl⟩
    · obtain ⟨e, hee⟩ : ∃ e, byNameE fs = e := ⟨_, rfl⟩
      rw [hee] at hF he
      have k1 : ¬ ((e != 0) = false) := by simpa using he
      repeat' first
        | exact absurd (by assumption) k1
        | refine WpA.seq ?_
        | refine WpA.region ?_
        | refine WpOps.op _ rfl rfl rfl rfl rfl ?_
        | refine WpOps.box _ rfl rfl rfl rfl rfl ?_
        | refine WpOps.alloc _ rfl rfl rfl rfl rfl rfl ?_
        | refine WpOps.store rfl rfl rfl rfl rfl rfl rfl rfl rfl rfl ?_
        | refine WpOps.build _ rfl rfl rfl rfl rfl ?_
        | (refine WpOps.call rfl rfl rfl rfl rfl (by exact hC _) ?_; rintro _ _ ⟨rfl, rfl⟩)
        | (refine WpOps.call rfl rfl rfl rfl rfl (by exact hF _) ?_; rintro _ _ ⟨rfl, rfl⟩)
        | refine WpOps.nil ?_
        | refine WpA.ret ?_
        | refine WpA.condT rfl ?_
        | refine WpA.cond _ rfl (fun h => ?_) (fun h => ?_)
      exact hfin e (by rw [hmk, hee]) he rfl rfl rfl
  · obtain ⟨e, hee⟩ : ∃ e, check m = e := ⟨_, rfl⟩
    rw [hee] at hC hc
    have hmk : matchE m fs = e := by rw [matchE, hee, if_neg hc]
    have k1 : ¬ ((e != 0) = false) := by simpa using hc
    have k2 : ¬ ((e == 0) = true) := by simpa using hc
    repeat' first
      | exact absurd (by assumption) k2
      | exact absurd (by assumption) k1
      | refine WpA.seq ?_
      | refine WpA.region ?_
      | refine WpOps.op _ rfl rfl rfl rfl rfl ?_
      | refine WpOps.box _ rfl rfl rfl rfl rfl ?_
      | refine WpOps.alloc _ rfl rfl rfl rfl rfl rfl ?_
      | refine WpOps.store rfl rfl rfl rfl rfl rfl rfl rfl rfl rfl ?_
      | refine WpOps.build _ rfl rfl rfl rfl rfl ?_
      | (refine WpOps.call rfl rfl rfl rfl rfl (by exact hC _) ?_; rintro _ _ ⟨rfl, rfl⟩)
      | refine WpOps.nil ?_
      | refine WpA.ret ?_
      | refine WpA.skip ?_
      | refine WpA.cond _ rfl (fun h => ?_) (fun h => ?_)
    exact hfin e hmk hc rfl rfl rfl
end Go.Gp.Tryd



/- The laws of manifests: the chapter's examples. -/
namespace Go.Gp.Tryd
open Go.Proofs
set_option linter.unusedVariables false
set_option linter.unusedSimpArgs false
set_option maxHeartbeats 4000000
set_option maxRecDepth 100000

def two : Man := ⟨1, 0, 9, [⟨[97], sha [120]⟩, ⟨[98], sha [121]⟩]⟩
end Go.Gp.Tryd

/- The law ManifestExact: its walk. -/
namespace Go.Gp.Tryd
open Go.Proofs
set_option linter.unusedVariables false
set_option linter.unusedSimpArgs false
set_option maxHeartbeats 4000000
set_option maxRecDepth 100000

theorem nrows_one (fs : List NFile) : ∀ y ∈ nrows fs, ∀ a ∈ y, a.one = true := fun y hy a ha => by
  obtain ⟨f, _, rfl⟩ := List.mem_map.1 hy
  simp only [NFile.row, List.mem_cons, List.not_mem_nil, or_false] at ha
  rcases ha with rfl | rfl <;> rfl
end Go.Gp.Tryd

/- The reference of manifests: TwinFiles, SameFiles. -/
namespace Go.Gp.Tryd
open Go.Proofs
set_option linter.unusedVariables false
set_option linter.unusedSimpArgs false
set_option maxHeartbeats 4000000
set_option maxRecDepth 100000

theorem bd_nrow (n m j : Nat) (l : List NFile) (h : m + j < n) : Bd n (.sl (.row m j) 2 (nrows l)) := .sl (fun _ _ e => by cases e; exact h) fun x hx e he => by
  obtain ⟨f, _, rfl⟩ := List.mem_map.1 hx
  exact bd_file n f e he
theorem twinFiles_A (fs : List NFile) (H : List AObj) (hl : fs.length ≤ 1000000000) (hb : ∀ f ∈ fs, f.bytes.length ≤ 1000000000) : CallsA E 12 [.sl .no 2 (nrows fs)] H (Is H (.sl .no 2 (nrows fs))) := by
  have hlen := nrows_len fs
  refine .enter Tryd.func12 rfl rfl rfl 28 Tryd.ntmps12 (Nat.le_of_ble_eq_true rfl) ?_
  refine WpA.seq ?_
  repeat' first
    | refine WpA.region ?_
    | refine WpOps.op _ rfl rfl rfl rfl rfl ?_
    | refine WpOps.nil ?_
  refine WpA.seq ?_
  repeat' first
    | refine WpA.region ?_
    | refine WpOps.op _ rfl rfl rfl rfl rfl ?_
    | refine WpOps.nil ?_
  refine WpA.weak (T := [(0, .sl .no 2 (nrows fs)), (3, .sl .full 0 [])]) ⟨rfl, rfl, trivial⟩ ?_
  show WpA E none 28 _ _ _ (H ++ [])
  refine WpA.adoptS 3 2 rfl ?_
  repeat' first
    | refine WpA.seq ?_
    | refine WpA.region ?_
    | refine WpOps.op _ rfl rfl rfl rfl rfl ?_
    | refine WpA.block ?_
    | refine WpOps.nil ?_
  refine WpA.loopG fs.length (fun i => [(0, .sl .no 2 (nrows fs)), (3, .sl (.row H.length 0) 2 (nrows (fs.take i))), (4, .int .i64 (i : Nat))])
    (fun i => H ++ [.tail (nrows (fs.take i)).length 2]) (fun _ => True) trivial ⟨rfl, rfl, rfl, trivial⟩ rfl (fun _ _ => by simp) (fun i hi _ => ?_) (fun i hi _ => ⟨bd_nrows _ _, bd_nrow _ _ _ _ (by simp), .int, trivial⟩) (fun i hi _ => ?_) (fun _ => ?_) (fun _ => ⟨rfl, rfl, rfl, trivial⟩)
  · refine TrOk.app fun k o hk => ?_
    rcases k with _ | k
    · injection hk with hk; subst hk; exact .inr obd_tail
    · cases hk
  · have hge := nrows_get hi
    have hlt : decide (((i : Nat) : Int) < (((nrows fs).length : Nat) : Int)) = true := decide_eq_true (by rw [hlen]; omega)
    have e1 : nrows (fs.take (i + 1)) = nrows (fs.take i) ++ [fs[i].row] := by rw [List.take_succ_eq_append_getElem hi]; exact List.map_append
    have hbi := hb _ (List.getElem_mem hi)
    rw [e1]
    have hf1 : ((nrows (fs.take i)).length + [fs[i].row].length) * 40 ≤ 140737488355328 := by rw [nrows_len, List.length_take, List.length_singleton]; omega
    obtain ⟨f, hf⟩ : ∃ f, fs[i] = f := ⟨_, rfl⟩
    rw [hf] at hge hbi hf1 ⊢
    have hf2 : (f.bytes.map byteRow).length * 1 ≤ 140737488355328 := by rw [List.length_map]; omega
    repeat' first
      | refine WpA.condT (congrArg AV.bool hlt) ?_
      | refine WpA.drawI [] [0, 0, 0, 0, 0, 0, 0, 0, 0, 0, 0, 0, 0, 0, 0, 3, 0] (by kernel_rfl) (by kernel_rfl) ?_
      | (refine LexH.elem _ rfl rfl rfl rfl rfl rfl rfl rfl rfl rfl (Int.natCast_nonneg i) hge ?_)
      | (refine LexH.buildSlice (d := 17) [] rfl rfl rfl rfl rfl rfl rfl rfl rfl rfl rfl rfl ?_)
      | (refine LexH.p0 rfl rfl rfl rfl (fun H0 => .appE (ys := f.bytes.map byteRow) rfl rfl rfl rfl (fun k h => by cases h) rfl rfl rfl hf2) ?_)
      | (refine LexH.appR3 (xs := nrows (fs.take i)) (ys := [f.row]) rfl rfl rfl rfl rfl rfl rfl rfl (fun k h => by cases h) rfl rfl rfl rfl rfl rfl (by exact nrows_one [f]) (by exact hf1) (fun k hk => by cases hk) ?_)
      | refine WpA.seq ?_
      | refine WpA.region ?_
      | refine WpOps.op _ rfl rfl rfl rfl rfl ?_
      | refine WpA.block ?_
      | refine WpOps.nil ?_
      | refine WpA.skip ?_
      | refine LexH.op0 _ rfl rfl rfl rfl rfl (fun _ => rfl) ?_
      | refine LexH.build _ rfl rfl rfl rfl rfl rfl ?_
      | refine LexH.buildSlice _ rfl rfl rfl rfl rfl rfl rfl rfl rfl rfl rfl rfl ?_
      | refine LexH.nil ?_
    exact ⟨trivial, ⟨rfl, rfl, congrArg (AV.int .i64) (wrap64 (by omega) (by omega)), trivial⟩, [], by rw [List.append_nil]; try rfl⟩
  · rw [List.take_length]
    have hlt : decide (((fs.length : Nat) : Int) < (((nrows fs).length : Nat) : Int)) = false := decide_eq_false (by rw [hlen]; omega)
    repeat' first
      | refine WpA.condF (congrArg AV.bool hlt) ?_
      | refine WpA.seq ?_
      | refine WpA.region ?_
      | refine WpOps.op _ rfl rfl rfl rfl rfl ?_
      | refine WpA.exit ?_
      | refine WpOps.nil ?_
      | refine WpA.ret ?_
    exact retK.sub (.inr rfl) rfl (TrOk.refl H) (L := _) rfl rfl Sub.untag (bd_nrows _ _) ⟨rfl, rfl⟩

theorem sameFiles_A (fs : List NFile) (H : List AObj) (hl : fs.length ≤ 1000000000) (hb : ∀ f ∈ fs, f.bytes.length ≤ 1000000000) : CallsA E 19 [.sl .no 2 (nrows fs), .sl .no 2 (nrows fs)] H (Is H (.bool true)) := by
  have hlen := nrows_len fs
  refine .enter Tryd.func19 rfl rfl rfl 42 Tryd.ntmps19 (Nat.le_of_ble_eq_true rfl) ?_
  have k1 : ¬ ((((nrows fs).length : Nat) : Int) != (((nrows fs).length : Nat) : Int)) = true := by simp
  repeat' first
    | exact absurd (by assumption) k1
    | refine WpA.seq ?_
    | refine WpA.region ?_
    | refine WpOps.op _ rfl rfl rfl rfl rfl ?_
    | refine WpA.block ?_
    | refine WpOps.nil ?_
    | refine WpA.skip ?_
    | refine WpA.cond _ rfl (fun h => ?_) (fun h => ?_)
  refine WpA.loopFor fs.length (fun i => [(0, .sl .no 2 (nrows fs)), (1, .sl .no 2 (nrows fs)), (5, .int .i64 (i : Nat))]) (fun _ => H ++ []) (fun i => True) trivial ⟨rfl, rfl, rfl, trivial⟩ rfl (fun i hi _ => ?_) (fun _ => ?_)
  · have hge := nrows_get hi
    have hlt : decide (((i : Nat) : Int) < (((nrows fs).length : Nat) : Int)) = true := decide_eq_true (by rw [hlen]; omega)
    have hbi := hb _ (List.getElem_mem hi)
    obtain ⟨f, hf⟩ : ∃ f, fs[i] = f := ⟨_, rfl⟩
    rw [hf] at hge hbi
    have hB := fun X => sameBytes_A f.bytes f.bytes .no .no X (by omega)
    have hbe : (f.bytes == f.bytes) = true := by simp
    rw [hbe] at hB
    have k2 : ¬ ((!(f.name == f.name)) = true) := by simp
    have k3 : ¬ ((f.name != f.name) = true) := by simp
    have k4 : ¬ ((bif f.name != f.name then true else !true) = true) := by simp
    repeat' first
      | refine WpA.condT (congrArg AV.bool hlt) ?_
      | exact absurd (by assumption) k2
      | (refine LexA.elem _ rfl rfl rfl rfl rfl rfl rfl rfl rfl (Int.natCast_nonneg i) hge ?_)
      | refine WpA.seq ?_
      | refine WpA.region ?_
      | refine WpOps.op _ rfl rfl rfl rfl rfl ?_
      | refine WpA.block ?_
      | refine WpOps.nil ?_
      | refine WpA.skip ?_
      | refine WpA.condF rfl ?_
      | refine WpA.draw (by kernel_rfl) ?_
      | refine LexA.op _ rfl rfl rfl rfl rfl ?_
      | refine LexA.call rfl rfl rfl rfl rfl (by exact hB _) ?_
      | refine LexA.gsplit _ rfl rfl rfl (fun h => ?_) (fun h => ?_)
      | refine LexA.nil ?_
    exact ⟨trivial, ⟨rfl, rfl, congrArg (AV.int .i64) (wrap64 (by omega) (by omega)), trivial⟩, rfl⟩
  · have hlt : decide (((fs.length : Nat) : Int) < (((nrows fs).length : Nat) : Int)) = false := decide_eq_false (by rw [hlen]; omega)
    repeat' first
      | refine WpA.condF (congrArg AV.bool hlt) ?_
      | refine WpA.seq ?_
      | refine WpA.region ?_
      | refine WpOps.op _ rfl rfl rfl rfl rfl ?_
      | refine WpA.exit ?_
      | refine WpOps.nil ?_
      | refine WpA.ret ?_
    exact retK.ok rfl rfl rfl .bool
end Go.Gp.Tryd
