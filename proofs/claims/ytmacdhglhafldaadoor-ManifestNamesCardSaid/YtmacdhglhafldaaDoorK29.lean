/- Part of a proof: GdF6, GdR1, GdR2, GdR3, GdR4, GdR5, GdR6, GdR7 -/
import Derived.Test.YtmacdhglhafldaaDoorK13
import Derived.Test.YtmacdhglhafldaaDoorK22
import Derived.Test.YtmacdhglhafldaaDoorK28

/- The manifest: Match. -/
namespace Go.Gp.Tryd
open Go.Proofs
set_option linter.unusedVariables false
set_option linter.unusedSimpArgs false
set_option maxHeartbeats 4000000
set_option maxRecDepth 100000

def strs (l : List (List UInt8)) : List (List AV) := l.map fun s => [.str s]
structure Rep where
  miss : List (List UInt8)
  wrong : List (List UInt8)
  extra : List (List UInt8)
def Rep.av (r : Rep) : AV := .agg [.sl .no 1 (strs r.miss), .sl .no 1 (strs r.wrong), .sl .no 1 (strs r.extra)]
def rep0 : Rep := ⟨[], [], []⟩
def fnames (fs : List File) : List (List UInt8) := fs.map (·.name)
def matchE (m : Man) (fs : List NFile) : Int := if check m = 0 then byNameE fs else check m
def matchR (m : Man) (fs : List NFile) : Rep :=
  if matchE m fs = 0 then ⟨fnames (m.fs.filter (missF fs)), fnames (m.fs.filter (wrongF fs)), sortB ((names fs).filter fun k => !(fnames m.fs).contains k)⟩ else rep0
theorem bd_strs (n : Nat) (l : List (List UInt8)) : Bd n (.sl .no 1 (strs l)) := .sl (fun _ _ e => by cases e) fun x hx e he => by
  obtain ⟨s, _, rfl⟩ := List.mem_map.1 hx
  have := List.mem_singleton.1 he
  subst this
  exact .str
theorem rep_bd (n : Nat) (r : Rep) (k : Int) : Bd n (.tup [r.av, .int .i64 k]) := .tup fun x hx => by
  simp only [List.mem_cons, List.not_mem_nil, or_false] at hx
  rcases hx with rfl | rfl
  · refine .agg fun y hy => ?_
    simp only [List.mem_cons, List.not_mem_nil, or_false] at hy
    rcases hy with rfl | rfl | rfl <;> exact bd_strs n _
  · exact .int
theorem rep0_sub (k : Int) : Sub (.tup [.agg [.sl .full 0 [], .sl .full 0 [], .sl .full 0 []], .int .i64 k]) (.tup [rep0.av, .int .i64 k]) :=
  Sub.tup (vs := [rep0.av, .int .i64 k]) ⟨Sub.agg (vs := [.sl .no 1 [], .sl .no 1 [], .sl .no 1 []]) ⟨Sub.empty, Sub.empty, Sub.empty, trivial⟩, Sub.refl _, trivial⟩
theorem nameIts_strs (l : List File) : nameIts l = strs (fnames l) := by simp [nameIts, strs, fnames]
def nameX (x : List AV) : List UInt8 := strA1 (x.headD .nilp)
def keepStep (l : List (List UInt8)) (x : List AV) : List (List UInt8) × Option Code := (l ++ [nameX x], none)
theorem runStep_keep : ∀ (ns l : List (List UInt8)), runStep keepStep l (strs ns) = (l ++ ns, none)
  | [], l => by rw [List.append_nil]; rfl
  | x :: ns, l => by
    show runStep keepStep (l ++ [x]) (strs ns) = _
    rw [runStep_keep ns, List.append_assoc]; rfl
theorem strs_len (l : List (List UInt8)) : (strs l).length = l.length := List.length_map _
theorem strs_snoc (l : List (List UInt8)) (s : List UInt8) : strs l ++ [[.str s]] = strs (l ++ [s]) := by simp [strs]
theorem obd_rep {n a b : Nat} {M l e : List (List UInt8)} {t1 t2 : Tag} (h1 : t1 = .full ∨ (∃ m j, t1 = .row m j ∧ m + j < n)) (h2 : t2 = .full ∨ (∃ m j, t2 = .row m j ∧ m + j < n)) : OBd n (.cells [.sl t1 1 (strs M), .sl t2 1 (strs l), .sl .full 0 []]) := by
  have hb : ∀ (t : Tag) (l : List (List UInt8)), (t = .full ∨ (∃ m j, t = .row m j ∧ m + j < n)) → Bd n (.sl t 1 (strs l)) := fun t l h => by
    have := bd_strs n l
    cases this with
    | sl _ h9 =>
      rcases h with rfl | ⟨m, j, rfl, h⟩
      · exact .sl (fun _ _ e => by cases e) h9
      · exact .sl (fun _ _ e => by cases e; exact h) h9
  refine obd_cells fun x hx => ?_
  simp only [List.mem_cons, List.not_mem_nil, or_false] at hx
  rcases hx with rfl | rfl | rfl
  · exact hb _ _ h1
  · exact hb _ _ h2
  · exact .sl (fun _ _ e => by cases e) (by simp)

theorem match_A (m : Man) (fs : List NFile) (H : List AObj) (hm : m.fs.length ≤ 1000000000) (hl : fs.length ≤ 1000000000) (hb : ∀ f ∈ fs, f.bytes.length ≤ 1000000000) :
    CallsA E 15 [m.av .no, .sl .no 2 (nrows fs)] H (Is H (.tup [(matchR m fs).av, .int .i64 (matchE m fs)])) := by
  have hC := fun H => Check_A m H (by omega)
  have hN := fun H => byName_A fs H hl
  have hfin : ∀ (k : Int) {t : Slots} {L : List AObj} {xs : List AV}, matchE m fs = k → k ≠ 0 → xs = [.agg [.sl .full 0 [], .sl .full 0 [], .sl .full 0 []], .int .i64 k] → resL L E.T t [.cell 4 40, .tmp 5] = some xs → resN H.length t [.cell 4 40, .tmp 5] = [H.length, H.length] → retK E [.cell 4 40, .tmp 5] H (Is H (.tup [(matchR m fs).av, .int .i64 (matchE m fs)])) .ret t (H ++ L) := fun k t L xs h hk e1 e2 e3 =>
    by subst e1; exact retK.sub (.inr rfl) rfl (TrOk.refl H) (L := L) e2 e3 (rep0_sub k) (rep_bd _ _ _) ⟨rfl, by rw [matchR, h, if_neg hk]⟩
  refine .enter Tryd.func15 rfl rfl rfl 65 Tryd.ntmps15 (Nat.le_of_ble_eq_true rfl) ?_
  by_cases hc : check m = 0
  · have hmk : matchE m fs = byNameE fs := by rw [matchE, if_pos hc]
    rw [hc] at hC
    by_cases he : byNameE fs = 0
    · have hE : matchE m fs = 0 := by rw [hmk, he]
      have hR : matchR m fs = ⟨fnames (m.fs.filter (missF fs)), fnames (m.fs.filter (wrongF fs)), sortB ((names fs).filter fun k => !(fnames m.fs).contains k)⟩ := by rw [matchR, if_pos hE]
      rw [hE, hR]
      obtain ⟨g1, g2, g3⟩ := byNameE_ok he
      have hN0 : ∀ o1 o2 : AObj, CallsA E 30 [.sl .no 2 (nrows fs)] (H ++ [o1, o2]) (fun e H' => H' = H ++ [o1, o2, .map (entries fs 0) fs.length] ∧ e = .ret (.tup [.map H.length 2, .int .i64 0])) := fun o1 o2 =>
        CallsA.reR (r0 := .tup [.map (H ++ [o1, o2]).length 0, .int .i64 0]) ((hN _).mono fun e H' h => by rw [byNameR, if_pos he] at h; exact h) (Sub.tup ⟨Sub.map (by simp), Sub.refl _, trivial⟩) (by simp)
      have hT0 : ∀ o1 o2 o3 o4 o5 : AObj, CallsA E 36 [m.av .no, .func 37 [.ptr H.length 3 0]] (H ++ [o1, o2, o3, o4, o5]) (fun e H' => H' = H ++ [o1, o2, o3, o4, o5, .cells (m.cells .no), .cells [.func 37 [.ptr H.length 3 0]]] ∧ e = .ret (.func 70 [.ptr H.length 5 0, .ptr H.length 6 0])) := fun o1 o2 o3 o4 o5 =>
        CallsA.reR (those_A m _ rfl _) (Sub.func ⟨Sub.ptr (by simp), Sub.ptr (by simp), trivial⟩) (by simp)
      repeat' first
        | refine WpA.seq ?_
        | refine WpA.region ?_
        | refine WpOps.op _ rfl rfl rfl rfl rfl ?_
        | refine WpOps.box _ rfl rfl rfl rfl rfl ?_
        | refine WpOps.alloc _ rfl rfl rfl rfl rfl rfl ?_
        | refine WpOps.store rfl rfl rfl rfl rfl rfl rfl rfl rfl rfl ?_
        | (refine WpOps.call rfl rfl rfl rfl rfl (by exact hC _) ?_; rintro _ _ ⟨rfl, rfl⟩)
        | (refine WpOps.call rfl rfl rfl rfl rfl (by exact hN0 _ _) ?_; rintro _ _ ⟨rfl, rfl⟩)
        | (refine WpOps.call rfl rfl rfl rfl rfl (by exact hT0 _ _ _ _ _) ?_; rintro _ _ ⟨rfl, rfl⟩)
        | refine WpA.block ?_
        | refine WpOps.nil ?_
        | refine WpA.skip ?_
        | refine WpA.condF rfl ?_
      have hpre1 : ∀ Y : List AObj, Y[H.length + 3]? = some (.cells [.map H.length 2]) → Y[H.length + 2]? = some (.map (entries fs 0) fs.length) → namedPre fs H.length 3 H.length 2 Y := fun Y h1 h2 => ⟨h1, h2⟩
      refine WpA.adoptC (j := 4) (q := 0) 1 rfl rfl ?_
      refine WpA.weak (T := [(2, .ptr H.length 0 0), (4, .ptr H.length 1 0), (7, .ptr H.length 3 0), (9, .ptr H.length 4 0), (31, .func 70 [.ptr H.length 5 0, .ptr H.length 6 0])]) ⟨rfl, rfl, rfl, rfl, rfl, trivial⟩ ?_
      obtain ⟨o5, ho5⟩ : ∃ o5, o5 = AObj.cells (m.cells .no) := ⟨_, rfl⟩
      obtain ⟨o6, ho6⟩ : ∃ o6, o6 = AObj.cells [.func 37 [.ptr H.length 3 0]] := ⟨_, rfl⟩
      let HF : List (List UInt8) → List AObj := fun l => H ++ [.cells (m.cells .no), .cells [.sl .full 0 [], .sl .full 0 [], .sl .full 0 []], .map (entries fs 0) fs.length, .cells [.map H.length 2], .cells [.sl (.row H.length 7) 1 (strs l), .sl .full 0 [], .sl .full 0 []], o5, o6, .tail (strs l).length 1]
      refine WpA.heap (H' := HF []) (by
        show _ = H ++ [_, _, _, _, _, o5, o6, _]
        rw [ho5, ho6]; rfl) ?_
      have hlen : ∀ l, (HF l).length = H.length + 8 := fun l => by show (H ++ [_, _, _, _, _, _, _, _]).length = _; simp
      refine WpA.rangeQ (pl := [32]) (N := H.length + 8) (ι := List AV) HF keepStep (fun h l => strs l = h) [] rfl rfl rfl rfl (those1_A m hm 37 [.ptr H.length 3 0] (missF fs) (namedPre fs H.length 3 H.length 2) (fun f _ H' X hp => match1_A fs H.length 3 H.length 2 f H' X hp) H.length 5 6) (fun l X => ?_) rfl hlen ?_ ?_ ?_ (by intro p hp; simp at hp; subst hp; decide) ?_ ?_ ?_ (fun h => by cases h)
      · exact ⟨by rw [← ho5]; exact get_mid rfl, by rw [← ho6]; exact get_mid rfl, get_mid rfl, get_mid rfl⟩
      · intro l l' i o hi
        have e : ∀ l, HF l = H ++ [.cells (m.cells .no), .cells [.sl .full 0 [], .sl .full 0 [], .sl .full 0 []], .map (entries fs 0) fs.length, .cells [.map H.length 2], .cells [.sl (.row H.length 7) 1 (strs l), .sl .full 0 [], .sl .full 0 []], o5, o6, .tail (strs l).length 1] := fun _ => rfl
        rw [e] at hi ⊢
        rcases Nat.lt_or_ge i H.length with hlt | hge
        · rw [List.getElem?_append_left hlt] at hi ⊢; exact .inl hi
        · rw [List.getElem?_append_right hge] at hi ⊢
          generalize i - H.length = j at hi ⊢
          rcases j with _ | _ | _ | _ | _ | _ | _ | _ | j
          · exact .inl hi
          · exact .inl hi
          · exact .inl hi
          · exact .inl hi
          · injection hi with hi; subst hi
            refine .inr (obd_cells fun x hx => ?_)
            simp only [List.mem_cons, List.not_mem_nil, or_false] at hx
            have hbs := bd_strs (H.length + 8) l'
            cases hbs with
            | sl _ h9 =>
              rcases hx with rfl | rfl | rfl
              · exact .sl (fun _ _ e => by cases e; omega) h9
              · exact .sl (fun _ _ e => by cases e) (by simp)
              · exact .sl (fun _ _ e => by cases e) (by simp)
          · exact .inl hi
          · exact .inl hi
          · injection hi with hi; subst hi; exact .inr obd_tail
          · cases hi
      · refine ⟨.ptr (by omega), .ptr (by omega), .ptr (by omega), .ptr (by omega), .func ?_, trivial⟩
        intro e he
        simp only [List.mem_cons, List.not_mem_nil, or_false] at he
        rcases he with rfl | rfl <;> exact .ptr (by omega)
      · intro h x hx
        have : x ∈ nameIts (m.fs.filter (missF fs)) := hx.subset (by simp)
        obtain ⟨f, _, rfl⟩ := List.mem_map.1 this
        rfl
      · rintro h l x rfl hx _
        have : x ∈ nameIts (m.fs.filter (missF fs)) := hx.subset (by simp)
        obtain ⟨f, _, rfl⟩ := List.mem_map.1 this
        exact (strs_snoc _ _).symm
      · rintro rec l h l0 x X hrec rfl hP B B' hB hB' hBl _
        have hll := hP.length_le
        rw [List.length_append, strs_len, nameIts, List.length_map] at hll
        have hfl := List.length_filter_le (missF fs) m.fs
        have : x ∈ nameIts (m.fs.filter (missF fs)) := hP.subset (by simp)
        obtain ⟨f, _, rfl⟩ := List.mem_map.1 this
        have hB2 : B' = (H ++ [.cells (m.cells .no), .cells [.sl .full 0 [], .sl .full 0 [], .sl .full 0 []], .map (entries fs 0) fs.length, .cells [.map H.length 2], .cells [.sl (.row H.length 7) 1 (strs l0), .sl .full 0 [], .sl .full 0 []], o5, o6, .tail (strs l0).length 1]) ++ (rec .busy none :: X) := hB'
        have b4 : B'[H.length + 4]? = some (.cells [.sl (.row H.length 7) 1 (strs l0), .sl .full 0 [], .sl .full 0 []]) := by rw [hB2]; exact get_mid rfl
        have b7 : B'[H.length + 7]? = some (.tail (strs l0).length 1) := by rw [hB2]; exact get_mid rfl
        repeat' first
          | refine WpA.region ?_
          | refine WpOps.op _ rfl rfl rfl rfl rfl ?_
          | refine WpOps.nil ?_
        refine ⟨rfl, _, rfl, ?_⟩
        obtain ⟨B3, hB3⟩ : ∃ B3, B3 = B'.set (H.length + 7) (.tail (strs l0 ++ [[AV.str f.name]]).length 1) := ⟨_, rfl⟩
        have c4 : B3[H.length + 4]? = some (.cells [.sl (.row H.length 7) 1 (strs l0), .sl .full 0 [], .sl .full 0 []]) := by rw [hB3, hB2, set_mid (Nat.le_of_ble_eq_true rfl)]; exact get_mid rfl
        repeat' first
          | (refine WpOps.p1 rfl rfl rfl (.loadN rfl rfl (getL b4) rfl rfl rfl rfl) ?_)
          | refine WpA.region ?_
          | refine WpOps.op _ rfl rfl rfl rfl rfl ?_
          | (refine WpOps.buildSlice _ rfl rfl rfl rfl rfl rfl rfl rfl rfl rfl rfl ?_)
          | refine WpA.block ?_
        refine WpOps.appX (xs := strs l0) (ys := [[AV.str f.name]]) rfl rfl rfl rfl rfl rfl rfl (fun k h => by cases h) rfl rfl rfl rfl b7 rfl ?_ ?_ ?_
        · intro y hy a ha
          have := List.mem_singleton.1 hy; subst this
          have := List.mem_singleton.1 ha; subst this
          rfl
        · show ((strs l0).length + 1) * 16 ≤ _
          rw [strs_len]; omega
        · refine WpOps.heap (H' := B3 ++ []) (by rw [hB3]; rfl) ?_
          repeat' first
            | refine WpOps.op _ rfl rfl rfl rfl rfl ?_
            | (refine WpOps.u1 rfl rfl (.storeB rfl rfl c4 rfl rfl rfl rfl rfl (Nat.succ_pos _)) ?_)
            | refine WpOps.nil ?_
          refine ⟨[], ?_, rfl⟩
          show B3.set (H.length + 4) (.cells [.sl (.row H.length 7) 1 (strs l0 ++ [[AV.str f.name]]), .sl .full 0 [], .sl .full 0 []]) ++ [] = (HF (l0 ++ [f.name]) ++ (rec .busy none :: X)) ++ []
          rw [hB3, hB2, set_mid (Nat.le_of_ble_eq_true rfl)]
          simp only [List.set_cons_succ, List.set_cons_zero]
          rw [set_mid (Nat.le_of_ble_eq_true rfl), strs_snoc]
          rfl
      · rintro rec its rfl
        rw [nameIts_strs, runStep_keep, List.nil_append]
        obtain ⟨o8, ho8⟩ : ∃ o8, o8 = rec .exhausted none := ⟨_, rfl⟩
        obtain ⟨M, hM⟩ : ∃ M, M = fnames (m.fs.filter (missF fs)) := ⟨_, rfl⟩
        rw [← ho8, ← hM]
        show WpA E none 65 _ _ _ ((H ++ [.cells (m.cells .no), .cells [.sl .full 0 [], .sl .full 0 [], .sl .full 0 []], .map (entries fs 0) fs.length, .cells [.map H.length 2], .cells [.sl (.row H.length 7) 1 (strs M), .sl .full 0 [], .sl .full 0 []], o5, o6, .tail (strs M).length 1]) ++ [o8])
        rw [List.append_assoc]
        clear hlen HF
        have hT2 : ∀ o0 o1 o2 o3 o4 o5 o6 o7 o8 : AObj, CallsA E 36 [m.av .no, .func 39 [.ptr H.length 3 0]] (H ++ [o0, o1, o2, o3, o4, o5, o6, o7, o8]) (fun e H' => H' = H ++ [o0, o1, o2, o3, o4, o5, o6, o7, o8, .cells (m.cells .no), .cells [.func 39 [.ptr H.length 3 0]]] ∧ e = .ret (.func 70 [.ptr H.length 9 0, .ptr H.length 10 0])) := fun o0 o1 o2 o3 o4 o5 o6 o7 o8 =>
          CallsA.reR (those_A m _ rfl _) (Sub.func ⟨Sub.ptr (by simp), Sub.ptr (by simp), trivial⟩) (by simp)
        repeat' first
          | refine WpA.seq ?_
          | refine WpA.region ?_
          | refine WpOps.op _ rfl rfl rfl rfl rfl ?_
          | (refine WpOps.call rfl rfl rfl rfl rfl (by exact hT2 _ _ _ _ _ _ _ _ _) ?_; rintro _ _ ⟨rfl, rfl⟩)
          | refine WpA.block ?_
          | refine WpOps.nil ?_
        refine WpA.adoptC (j := 4) (q := 1) 1 rfl rfl ?_
        refine WpA.weak (T := [(2, .ptr H.length 0 0), (4, .ptr H.length 1 0), (7, .ptr H.length 3 0), (9, .ptr H.length 4 0), (41, .func 70 [.ptr H.length 9 0, .ptr H.length 10 0])]) ⟨rfl, rfl, rfl, rfl, rfl, trivial⟩ ?_
        obtain ⟨o9, ho9⟩ : ∃ o9, o9 = AObj.cells (m.cells .no) := ⟨_, rfl⟩
        obtain ⟨o10, ho10⟩ : ∃ o10, o10 = AObj.cells [.func 39 [.ptr H.length 3 0]] := ⟨_, rfl⟩
        obtain ⟨o7, ho7⟩ : ∃ o7, o7 = AObj.tail (strs M).length 1 := ⟨_, rfl⟩
        let HF : List (List UInt8) → List AObj := fun l => H ++ [.cells (m.cells .no), .cells [.sl .full 0 [], .sl .full 0 [], .sl .full 0 []], .map (entries fs 0) fs.length, .cells [.map H.length 2], .cells [.sl (.row H.length 7) 1 (strs M), .sl (.row H.length 11) 1 (strs l), .sl .full 0 []], o5, o6, o7, o8, o9, o10, .tail (strs l).length 1]
        refine WpA.heap (H' := HF []) (by
          show _ = H ++ [_, _, _, _, _, o5, o6, o7, o8, o9, o10, _]
          rw [ho9, ho10, ho7]; rfl) ?_
        have hlen : ∀ l, (HF l).length = H.length + 12 := fun l => by show (H ++ [_, _, _, _, _, _, _, _, _, _, _, _]).length = _; simp
        refine WpA.rangeQ (pl := [42]) (N := H.length + 12) (ι := List AV) HF keepStep (fun h l => strs l = h) [] rfl rfl rfl rfl (those1_A m hm 39 [.ptr H.length 3 0] (wrongF fs) (namedPre fs H.length 3 H.length 2) (fun f _ H' X hp => match2_A fs hb H.length 3 H.length 2 f H' X hp) H.length 9 10) (fun l X => ?_) rfl hlen ?_ ?_ ?_ (by intro p hp; simp at hp; subst hp; decide) ?_ ?_ ?_ (fun h => by cases h)
        · exact ⟨by rw [← ho9]; exact get_mid rfl, by rw [← ho10]; exact get_mid rfl, get_mid rfl, get_mid rfl⟩
        · intro l l' i o hi
          have e : ∀ l, HF l = H ++ [.cells (m.cells .no), .cells [.sl .full 0 [], .sl .full 0 [], .sl .full 0 []], .map (entries fs 0) fs.length, .cells [.map H.length 2], .cells [.sl (.row H.length 7) 1 (strs M), .sl (.row H.length 11) 1 (strs l), .sl .full 0 []], o5, o6, o7, o8, o9, o10, .tail (strs l).length 1] := fun _ => rfl
          rw [e] at hi ⊢
          rcases Nat.lt_or_ge i H.length with hlt | hge
          · rw [List.getElem?_append_left hlt] at hi ⊢; exact .inl hi
          · rw [List.getElem?_append_right hge] at hi ⊢
            generalize i - H.length = j at hi ⊢
            rcases j with _ | _ | _ | _ | _ | _ | _ | _ | _ | _ | _ | _ | j
            · exact .inl hi
            · exact .inl hi
            · exact .inl hi
            · exact .inl hi
            · injection hi with hi; subst hi
              exact .inr (obd_rep (a := 0) (b := 0) (e := []) (.inr ⟨_, _, rfl, by omega⟩) (.inr ⟨_, _, rfl, by omega⟩))
            · exact .inl hi
            · exact .inl hi
            · exact .inl hi
            · exact .inl hi
            · exact .inl hi
            · exact .inl hi
            · injection hi with hi; subst hi; exact .inr obd_tail
            · cases hi
        · refine ⟨.ptr (by omega), .ptr (by omega), .ptr (by omega), .ptr (by omega), .func ?_, trivial⟩
          intro e he
          simp only [List.mem_cons, List.not_mem_nil, or_false] at he
          rcases he with rfl | rfl <;> exact .ptr (by omega)
        · intro h x hx
          have : x ∈ nameIts (m.fs.filter (wrongF fs)) := hx.subset (by simp)
          obtain ⟨f, _, rfl⟩ := List.mem_map.1 this
          rfl
        · rintro h l x rfl hx _
          have : x ∈ nameIts (m.fs.filter (wrongF fs)) := hx.subset (by simp)
          obtain ⟨f, _, rfl⟩ := List.mem_map.1 this
          exact (strs_snoc _ _).symm
        · rintro rec l h l0 x X hrec rfl hP B B' hB hB' hBl _
          have hll := hP.length_le
          rw [List.length_append, strs_len, nameIts, List.length_map] at hll
          have hfl := List.length_filter_le (wrongF fs) m.fs
          have : x ∈ nameIts (m.fs.filter (wrongF fs)) := hP.subset (by simp)
          obtain ⟨f, _, rfl⟩ := List.mem_map.1 this
          have hB2 : B' = (H ++ [.cells (m.cells .no), .cells [.sl .full 0 [], .sl .full 0 [], .sl .full 0 []], .map (entries fs 0) fs.length, .cells [.map H.length 2], .cells [.sl (.row H.length 7) 1 (strs M), .sl (.row H.length 11) 1 (strs l0), .sl .full 0 []], o5, o6, o7, o8, o9, o10, .tail (strs l0).length 1]) ++ (rec .busy none :: X) := hB'
          have b4 : B'[H.length + 4]? = some (.cells [.sl (.row H.length 7) 1 (strs M), .sl (.row H.length 11) 1 (strs l0), .sl .full 0 []]) := by rw [hB2]; exact get_mid rfl
          have b7 : B'[H.length + 11]? = some (.tail (strs l0).length 1) := by rw [hB2]; exact get_mid rfl
          repeat' first
            | refine WpA.region ?_
            | refine WpOps.op _ rfl rfl rfl rfl rfl ?_
            | refine WpOps.nil ?_
          refine ⟨rfl, _, rfl, ?_⟩
          obtain ⟨B3, hB3⟩ : ∃ B3, B3 = B'.set (H.length + 11) (.tail (strs l0 ++ [[AV.str f.name]]).length 1) := ⟨_, rfl⟩
          have c4 : B3[H.length + 4]? = some (.cells [.sl (.row H.length 7) 1 (strs M), .sl (.row H.length 11) 1 (strs l0), .sl .full 0 []]) := by rw [hB3, hB2, set_mid (Nat.le_of_ble_eq_true rfl)]; exact get_mid rfl
          repeat' first
            | (refine WpOps.p1 rfl rfl rfl (.loadN rfl rfl (getL b4) rfl rfl rfl rfl) ?_)
            | refine WpA.region ?_
            | refine WpOps.op _ rfl rfl rfl rfl rfl ?_
            | (refine WpOps.buildSlice _ rfl rfl rfl rfl rfl rfl rfl rfl rfl rfl rfl ?_)
            | refine WpA.block ?_
          refine WpOps.appX (xs := strs l0) (ys := [[AV.str f.name]]) rfl rfl rfl rfl rfl rfl rfl (fun k h => by cases h) rfl rfl rfl rfl b7 rfl ?_ ?_ ?_
          · intro y hy a ha
            have := List.mem_singleton.1 hy; subst this
            have := List.mem_singleton.1 ha; subst this
            rfl
          · show ((strs l0).length + 1) * 16 ≤ _
            rw [strs_len]; omega
          · refine WpOps.heap (H' := B3 ++ []) (by rw [hB3]; rfl) ?_
            repeat' first
              | refine WpOps.op _ rfl rfl rfl rfl rfl ?_
              | (refine WpOps.u1 rfl rfl (.storeB rfl rfl c4 rfl rfl rfl rfl rfl (Nat.succ_lt_succ (Nat.succ_pos _))) ?_)
              | refine WpOps.nil ?_
            refine ⟨[], ?_, rfl⟩
            show B3.set (H.length + 4) (.cells [.sl (.row H.length 7) 1 (strs M), .sl (.row H.length 11) 1 (strs l0 ++ [[AV.str f.name]]), .sl .full 0 []]) ++ [] = (HF (l0 ++ [f.name]) ++ (rec .busy none :: X)) ++ []
            rw [hB3, hB2, set_mid (Nat.le_of_ble_eq_true rfl)]
            simp only [List.set_cons_succ, List.set_cons_zero]
            rw [set_mid (Nat.le_of_ble_eq_true rfl), strs_snoc]
            rfl
        · rintro rec2 its rfl
          rw [nameIts_strs, runStep_keep, List.nil_append]
          obtain ⟨o12, ho12⟩ : ∃ o12, o12 = rec2 .exhausted none := ⟨_, rfl⟩
          obtain ⟨W, hW⟩ : ∃ W, W = fnames (m.fs.filter (wrongF fs)) := ⟨_, rfl⟩
          obtain ⟨o11, ho11⟩ : ∃ o11, o11 = AObj.tail (strs W).length 1 := ⟨_, rfl⟩
          rw [← ho12, ← hW]
          show WpA E none 65 _ _ _ ((H ++ [.cells (m.cells .no), .cells [.sl .full 0 [], .sl .full 0 [], .sl .full 0 []], .map (entries fs 0) fs.length, .cells [.map H.length 2], .cells [.sl (.row H.length 7) 1 (strs M), .sl (.row H.length 11) 1 (strs W), .sl .full 0 []], o5, o6, o7, o8, o9, o10, .tail (strs W).length 1]) ++ [o12])
          rw [List.append_assoc, ← ho11]
          clear hlen HF
          have hrl := rows_length m.fs
          have hcs := fun i => cutAll_spec (m.fs.take i) (entries_bytes fs 0) (by rw [entries_keys]; exact g3)
          repeat' first
            | refine WpA.seq ?_
            | refine WpA.region ?_
            | refine WpOps.op _ rfl rfl rfl rfl rfl ?_
            | refine WpA.block ?_
            | refine WpOps.nil ?_
          refine WpA.loopG m.fs.length (fun i => [(4, .ptr H.length 1 0), (7, .ptr H.length 3 0), (9, .ptr H.length 4 0), (50, .sl .no 33 (rows m.fs)), (51, .int .i64 (m.fs.length : Nat)), (52, .int .i64 (i : Nat))])
            (fun i => H ++ [.cells (m.cells .no), .cells [.sl .full 0 [], .sl .full 0 [], .sl .full 0 []], .map (cutAll (entries fs 0) (m.fs.take i)) fs.length, .cells [.map H.length 2], .cells [.sl (.row H.length 7) 1 (strs M), .sl (.row H.length 11) 1 (strs W), .sl .full 0 []], o5, o6, o7, o8, o9, o10, o11, o12]) (fun _ => True) trivial ⟨rfl, rfl, rfl, rfl, by rw [← hrl]; rfl, rfl, trivial⟩ rfl (fun _ _ => by simp) (fun i hi _ => ?_) (fun i hi _ => ?_) (fun i hi _ => ?_) (fun _ => ?_) (fun _ => ⟨rfl, rfl, rfl, rfl, rfl, rfl, trivial⟩)
          · refine TrOk.app fun k o hk => ?_
            rcases k with _ | _ | _ | k
            · exact .inl hk
            · exact .inl hk
            · injection hk with hk; subst hk; exact .inr (obd_mapB (hcs _).1)
            · exact .inl hk
          · exact ⟨.ptr (by simp), .ptr (by simp), .ptr (by simp), rows_bd _ _, .int, .int, trivial⟩
          · have hg := rows_get hi
            have hk := keyK_of (hcs i).1.keys
            have hst : cutAll (entries fs 0) (m.fs.take (i + 1)) = cutM (cutAll (entries fs 0) (m.fs.take i)) (.str m.fs[i].name) := by
              rw [List.take_succ_eq_append_getElem hi, cutAll_snoc]
            repeat' first
              | (refine WpOps.elem _ rfl rfl rfl rfl rfl rfl rfl rfl rfl (Int.natCast_nonneg i) hg ?_)
              | refine WpA.seq ?_
              | refine WpA.region ?_
              | refine WpOps.op _ rfl rfl rfl rfl rfl ?_
              | refine WpOps.alloc _ rfl rfl rfl rfl rfl rfl ?_
              | refine WpOps.store rfl rfl rfl rfl rfl rfl rfl rfl rfl rfl ?_
              | (refine WpOps.p1n rfl rfl (.inL (k := 2) (.delete rfl rfl rfl (app_get rfl rfl) rfl rfl hk)) ?_)
              | refine WpA.block ?_
              | refine WpA.exit ?_
              | refine WpOps.nil ?_
              | refine WpA.skip ?_
              | refine WpA.cond _ rfl (fun h => ?_) (fun h => ?_)
            · refine ⟨trivial, ⟨rfl, rfl, rfl, rfl, rfl, congrArg (AV.int .i64) (wrap64 (by omega) (by omega)), trivial⟩, [.cells m.fs[i].row], ?_⟩
              rw [hst]
              exact grow rfl
            · simp at h; omega
          · rw [List.take_length]
            have hcs := hcs m.fs.length
            rw [List.take_length, entries_keys] at hcs
            obtain ⟨es, hes⟩ : ∃ es, es = cutAll (entries fs 0) m.fs := ⟨_, rfl⟩
            rw [← hes] at hcs ⊢
            obtain ⟨q1, q2, q3⟩ := hcs
            have hst := entries_stamps fs
            have hK2 : ∀ o0 o1 o2 o3 o4 o5 o6 o7 o8 o9 o10 o11 o12 : AObj, CallsA E 32 [.map H.length 2] (H ++ [o0, o1, o2, o3, o4, o5, o6, o7, o8, o9, o10, o11, o12]) (fun e H' => H' = H ++ [o0, o1, o2, o3, o4, o5, o6, o7, o8, o9, o10, o11, o12, .cells [.map H.length 2]] ∧ e = .ret (.func 64 [.ptr H.length 13 0])) := fun o0 o1 o2 o3 o4 o5 o6 o7 o8 o9 o10 o11 o12 =>
              CallsA.reR (keys_A _ _ _) (Sub.func ⟨Sub.ptr (by simp), trivial⟩) (by simp)
            have hS2 : ∀ o0 o1 o3 o4 : AObj, CallsA E 31 [.func 64 [.ptr H.length 13 0]] (H ++ [o0, o1, .map es fs.length, o3, o4, o5, o6, o7, o8, o9, o10, o11, o12, .cells [.map H.length 2]]) (Is (H ++ [o0, o1, .map es fs.length, o3, o4, o5, o6, o7, o8, o9, o10, o11, o12, .cells [.map H.length 2]]) (.sl .no 1 (strs (sortB ((names fs).filter fun k => !(fnames m.fs).contains k))))) := fun o0 o1 o3 o4 => by
              have h9 := sorted_A H.length 13 H.length 2 es fs.length (H ++ [o0, o1, .map es fs.length, o3, o4, o5, o6, o7, o8, o9, o10, o11, o12, .cells [.map H.length 2]]) (app_get rfl rfl) (app_get rfl rfl) (fun e he => entries_keysB g2 e (q3.subset he)) (by rw [q2]; exact g3.filter _) ⟨(q3.map _).nodup hst.1, fun e he => hst.2 e (q3.subset he)⟩ (by have := q3.length_le; rw [entries_len] at this; omega)
              rw [q2] at h9
              exact h9
            repeat' first
              | refine WpA.seq ?_
              | refine WpA.region ?_
              | refine WpOps.op _ rfl rfl rfl rfl rfl ?_
              | refine WpOps.store rfl rfl rfl rfl rfl rfl rfl rfl rfl rfl ?_
              | (refine WpOps.call rfl rfl rfl rfl rfl (by exact hS2 _ _ _ _) ?_; rintro _ _ ⟨rfl, rfl⟩)
              | (refine WpOps.call rfl rfl rfl rfl rfl (by exact hK2 _ _ _ _ _ _ _ _ _ _ _ _ _) ?_; rintro _ _ ⟨rfl, rfl⟩)
              | refine WpA.block ?_
              | refine WpA.exit ?_
              | refine WpOps.nil ?_
              | refine WpA.ret ?_
              | refine WpA.skip ?_
              | refine WpA.cond _ rfl (fun h => ?_) (fun h => ?_)
            · simp at h
            · exact retK.sub (.inr rfl) rfl (TrOk.refl H) (L := _) rfl rfl (Sub.tup (vs := [Rep.av ⟨M, W, sortB ((names fs).filter fun k => !(fnames m.fs).contains k)⟩, .int .i64 0]) ⟨Sub.agg (vs := [.sl .no 1 (strs M), .sl .no 1 (strs W), .sl .no 1 (strs (sortB ((names fs).filter fun k => !(fnames m.fs).contains k)))]) ⟨Sub.untag, Sub.untag, Sub.refl _, trivial⟩, Sub.refl _, trivial⟩) (rep_bd _ _ _) ⟨rfl, rfl⟩
    · have hN0 : ∀ H, CallsA E 30 [.sl .no 2 (nrows fs)] H (Is H (.tup [.nilm, .int .i64 (byNameE fs)])) := fun H => (hN H).mono fun e H' h => by rw [byNameR, if_neg he] at h; exact h
      repeat' first
        | refine WpA.seq ?_
        | refine WpA.region ?_
        | refine WpOps.op _ rfl rfl rfl rfl rfl ?_
        | refine WpOps.box _ rfl rfl rfl rfl rfl ?_
        | refine WpOps.alloc _ rfl rfl rfl rfl rfl rfl ?_
        | refine WpOps.store rfl rfl rfl rfl rfl rfl rfl rfl rfl rfl ?_
        | refine WpOps.build _ rfl rfl rfl rfl rfl ?_
        | (refine WpOps.call rfl rfl rfl rfl rfl (by exact hC _) ?_; rintro _ _ ⟨rfl, rfl⟩)
        | (refine WpOps.call rfl rfl rfl rfl rfl (by exact hN0 _) ?_; rintro _ _ ⟨rfl, rfl⟩)
        | refine WpOps.nil ?_
        | refine WpA.ret ?_
        | refine WpA.skip ?_
        | refine WpA.condF rfl ?_
        | refine WpA.cond _ rfl (fun h => ?_) (fun h => ?_)
      · exact hfin (byNameE fs) hmk he rfl rfl rfl
      all_goals (exact absurd (by simpa using h) he)
  · have hmk : matchE m fs = check m := by rw [matchE, if_neg hc]
    repeat' first
      | refine WpA.seq ?_
      | refine WpA.region ?_
      | refine WpOps.op _ rfl rfl rfl rfl rfl ?_
      | refine WpOps.box _ rfl rfl rfl rfl rfl ?_
      | refine WpOps.alloc _ rfl rfl rfl rfl rfl rfl ?_
      | refine WpOps.store rfl rfl rfl rfl rfl rfl rfl rfl rfl rfl ?_
      | refine WpOps.build _ rfl rfl rfl rfl rfl ?_
      | (refine WpOps.call rfl rfl rfl rfl rfl (by exact hC _) ?_; rintro _ _ ⟨rfl, rfl⟩)
      | refine WpOps.nil ?_
      | refine WpA.ret ?_
      | refine WpA.skip ?_
      | refine WpA.cond _ rfl (fun h => ?_) (fun h => ?_)
    · exact hfin (check m) hmk hc rfl rfl rfl
    all_goals (exact absurd (by simpa using h) hc)
end Go.Gp.Tryd

/- The reference's octets: bytes, lengths, numbers. -/
namespace Go.Gp.Tryd
open Go.Proofs
set_option linter.unusedVariables false
set_option linter.unusedSimpArgs false
set_option maxHeartbeats 4000000
set_option maxRecDepth 100000

theorem bytes_get {x : List UInt8} {i : Nat} (h : i < x.length) : (x.map byteRow)[((i : Nat) : Int).toNat]? = some (byteRow x[i]) := by
  rw [Int.toNat_natCast, List.getElem?_map, List.getElem?_eq_getElem h]; rfl

theorem sameBytes_A (x y : List UInt8) (tg tg' : Tag) (H : List AObj) (hx : x.length ≤ 1125899906842624) :
    CallsA E 24 [.sl tg 1 (x.map byteRow), .sl tg' 1 (y.map byteRow)] H (Is H (.bool (x == y))) := by
  have hlx : (x.map byteRow).length = x.length := List.length_map _
  have hly : (y.map byteRow).length = y.length := List.length_map _
  refine .enter Tryd.func24 rfl rfl rfl 26 Tryd.ntmps24 (Nat.le_of_ble_eq_true rfl) ?_
  repeat' first
    | refine WpA.seq ?_
    | refine WpA.region ?_
    | refine WpOps.op _ rfl rfl rfl rfl rfl ?_
    | refine WpA.block ?_
    | refine WpOps.nil ?_
    | refine WpA.ret ?_
    | refine WpA.skip ?_
    | refine WpA.cond _ rfl (fun h => ?_) (fun h => ?_)
  · refine retK.ok rfl rfl (congrArg AV.bool ?_) .bool
    simp only [hlx, hly, bne_iff_ne, ne_eq] at h
    symm
    rw [beq_eq_false_iff_ne]
    intro e; subst e; exact h rfl
  · have hl : x.length = y.length := by simp only [hlx, hly, bne_eq_false_iff_eq] at h; omega
    clear h
    refine WpA.loopFor x.length (fun i => [(0, .sl tg 1 (x.map byteRow)), (1, .sl tg' 1 (y.map byteRow)), (5, .int .i64 (i : Nat))]) (fun _ => H ++ []) (fun i => x.take i = y.take i) rfl ⟨rfl, rfl, rfl, trivial⟩ rfl (fun i hi hok => ?_) (fun hok => ?_)
    · repeat' first
        | refine WpA.seq ?_
        | refine WpA.region ?_
        | refine WpOps.op _ rfl rfl rfl rfl rfl ?_
        | (refine LexA.elem (byteRow x[i]) rfl rfl rfl rfl rfl rfl rfl rfl rfl (Int.natCast_nonneg i) (bytes_get hi) ?_)
        | (refine LexA.elem (byteRow (y[i]'(by omega))) rfl rfl rfl rfl rfl rfl rfl rfl rfl (Int.natCast_nonneg i) (bytes_get (by omega)) ?_)
        | refine WpA.block ?_
        | refine WpA.exit ?_
        | refine WpOps.nil ?_
        | refine WpA.ret ?_
        | refine WpA.skip ?_
        | refine WpA.cond _ rfl (fun h => ?_) (fun h => ?_)
        | refine WpA.draw (by kernel_rfl) ?_
        | refine LexA.op _ rfl rfl rfl rfl rfl ?_
        | refine LexA.nil ?_
      · refine retK.ok rfl rfl (congrArg AV.bool ?_) .bool
        rw [u8_bne, Bool.not_eq_true'] at h
        symm
        rw [beq_eq_false_iff_ne]
        intro e; subst e
        simp at h
      · rw [u8_bne, Bool.not_eq_false'] at h
        have he : x[i] = y[i]'(by omega) := by simpa using h
        refine ⟨?_, ⟨rfl, rfl, congrArg (AV.int .i64) (wrap64 (by omega) (by omega)), trivial⟩, rfl⟩
        rw [List.take_succ_eq_append_getElem hi, List.take_succ_eq_append_getElem (by omega), hok, he]
      · simp only [hlx, decide_eq_false_iff_not] at *
        omega
    · repeat' first
        | refine WpA.seq ?_
        | refine WpA.region ?_
        | refine WpOps.op _ rfl rfl rfl rfl rfl ?_
        | refine WpA.block ?_
        | refine WpA.exit ?_
        | refine WpOps.nil ?_
        | refine WpA.ret ?_
        | refine WpA.skip ?_
        | refine WpA.cond _ rfl (fun h => ?_) (fun h => ?_)
        | refine WpA.draw (by kernel_rfl) ?_
        | refine LexA.op _ rfl rfl rfl rfl rfl ?_
      · simp only [hlx, decide_eq_true_eq] at *
        omega
      · refine retK.ok rfl rfl (congrArg AV.bool ?_) .bool
        rw [List.take_length, hl, List.take_length] at hok
        rw [hok]; simp

/-- A length as the reference writes it. -/
def rLen (n : Nat) : List UInt8 := if n < 128 then [UInt8.ofNat n] else if n < 256 then [129, UInt8.ofNat n] else if n < 65536 then [130, UInt8.ofNat (n / 256), UInt8.ofNat n] else [131, UInt8.ofNat (n / 65536), UInt8.ofNat (n / 256), UInt8.ofNat n]

theorem wrap_of (x : Nat) : IntKind.u8.wrap (x : Int) = ((UInt8.ofNat x).toNat : Int) := by
  rw [UInt8.toNat_ofNat']
  simp only [IntKind.wrap, IntKind.bits, IntKind.signed]
  simp

theorem tdiv_nat (n m : Nat) : (n : Int).tdiv (m : Int) = ((n / m : Nat) : Int) := rfl
theorem tmod_nat (n m : Nat) : (n : Int).tmod (m : Int) = ((n % m : Nat) : Int) := rfl

theorem be_zero : be 0 = [] := by
  unfold be bitLen; rfl
theorem be_pos {x : Nat} (h : 0 < x) : be x = be (x / 256) ++ [UInt8.ofNat x] := by
  have snoc : ∀ (n y : Nat), beN y (n + 1) = beN (y / 256) n ++ [UInt8.ofNat y] := by
    intro n
    induction n with
    | zero => intro y; simp [beN]
    | succ n ih =>
      intro y
      rw [beN, ih, beN, List.cons_append, Nat.div_div_eq_div_mul, show 2 ^ (8 * (n + 1)) = 256 * 2 ^ (8 * n) from by rw [show 8 * (n + 1) = 8 + 8 * n from by omega, Nat.pow_add]]
  have hb : (bitLen x + 7) / 8 = (bitLen (x / 256) + 7) / 8 + 1 := by
    by_cases h2 : 256 ≤ x
    · have := bitLen_shift (x := x) (k := 8) h2
      rw [show (2 : Nat) ^ 8 = 256 from rfl] at this
      omega
    · have h3 : x / 256 = 0 := by omega
      have h4 := bitLen_lt (x := x) (k := 8) (by omega)
      have h5 : bitLen (x / 256) = 0 := by rw [h3]; rfl
      have h6 : 0 < bitLen x := by unfold bitLen; rw [if_neg (by omega)]; omega
      omega
  rw [be, hb, snoc, be]

theorem be_len8 {x : Nat} (h : x < 2 ^ 64) : (be x).length ≤ 8 := by
  rw [be, beN_length]
  have := bitLen_lt h
  omega

end Go.Gp.Tryd

/- The reference's octets: how many, how deep, how great. -/
namespace Go.Gp.Tryd
open Go.Proofs
set_option linter.unusedVariables false
set_option linter.unusedSimpArgs false
set_option maxHeartbeats 4000000
set_option maxRecDepth 100000

/-- How many values, how deep, and the size as the reference counts it. -/
def Oct.cnt : Oct → Nat
  | .mk _ _ is => 1 + (is.attach.map fun x => x.1.cnt).sum
termination_by o => SizeOf.sizeOf o
decreasing_by have := List.sizeOf_lt_of_mem x.2; simp only [Oct.mk.sizeOf_spec]; omega
def Oct.dep : Oct → Nat
  | .mk _ _ is => 1 + (is.attach.map fun x => x.1.dep).foldl max 0
termination_by o => SizeOf.sizeOf o
decreasing_by have := List.sizeOf_lt_of_mem x.2; simp only [Oct.mk.sizeOf_spec]; omega
def Oct.rsz : Oct → Nat
  | .mk _ bs is => 1 + (rLen (bs.length + (is.attach.map fun x => x.1.rsz).sum)).length + (bs.length + (is.attach.map fun x => x.1.rsz).sum)
termination_by o => SizeOf.sizeOf o
decreasing_by all_goals (have := List.sizeOf_lt_of_mem x.2; simp only [Oct.mk.sizeOf_spec]; omega)
def Oct.shp : Oct → Bool
  | .mk t bs is => (Oct.mk t bs is).good && (is.attach.map fun x => x.1.shp).all id
termination_by o => SizeOf.sizeOf o
decreasing_by have := List.sizeOf_lt_of_mem x.2; simp only [Oct.mk.sizeOf_spec]; omega
theorem cnt_mk (t : UInt8) (bs : List UInt8) (is : List Oct) : (Oct.mk t bs is).cnt = 1 + (is.map Oct.cnt).sum := by rw [Oct.cnt, List.attach_map_val (f := Oct.cnt)]
theorem dep_mk (t : UInt8) (bs : List UInt8) (is : List Oct) : (Oct.mk t bs is).dep = 1 + (is.map Oct.dep).foldl max 0 := by rw [Oct.dep, List.attach_map_val (f := Oct.dep)]
theorem rsz_mk (t : UInt8) (bs : List UInt8) (is : List Oct) : (Oct.mk t bs is).rsz = 1 + (rLen (bs.length + (is.map Oct.rsz).sum)).length + (bs.length + (is.map Oct.rsz).sum) := by rw [Oct.rsz, List.attach_map_val (f := Oct.rsz)]
theorem shp_mk (t : UInt8) (bs : List UInt8) (is : List Oct) : (Oct.mk t bs is).shp = ((Oct.mk t bs is).good && (is.map Oct.shp).all id) := by rw [Oct.shp, List.attach_map_val (f := Oct.shp)]

theorem rLen_le (n : Nat) : (rLen n).length ≤ 4 := by unfold rLen; split <;> (try split) <;> (try split) <;> simp
theorem rLen_pos (n : Nat) : 1 ≤ (rLen n).length := by unfold rLen; split <;> (try split) <;> (try split) <;> simp

theorem sum_take {f : Oct → Nat} {is : List Oct} {i : Nat} (h : i < is.length) : ((is.take (i + 1)).map f).sum = ((is.take i).map f).sum + f is[i] := by
  rw [List.take_succ_eq_append_getElem h, List.map_append, List.sum_append]; simp
theorem sum_le {f : Oct → Nat} {is : List Oct} (i : Nat) : ((is.take i).map f).sum ≤ (is.map f).sum := by
  conv => rhs; rw [← List.take_append_drop i is, List.map_append, List.sum_append]
  omega

/-- A value no count of which is too great for an int. -/
theorem cnt_le_size : ∀ (o : Oct), o.cnt ≤ o.size
  | .mk t bs is => by
    rw [cnt_mk, size_mk]
    have : ∀ (l : List Oct), (∀ x ∈ l, SizeOf.sizeOf x < SizeOf.sizeOf (Oct.mk t bs is)) → (l.map Oct.cnt).sum ≤ Oct.sizeL l := by
      intro l
      induction l with
      | nil => intro _; simp [Oct.sizeL]
      | cons a l ih =>
        intro h
        have h1 := ih fun x hx => h x (List.mem_cons_of_mem _ hx)
        have h2 := h a List.mem_cons_self
        have h3 := cnt_le_size a
        rw [sizeL_cons, List.map_cons, List.sum_cons]
        omega
    have := this is fun x hx => by have := List.sizeOf_lt_of_mem hx; simp only [Oct.mk.sizeOf_spec]; omega
    omega
termination_by o => SizeOf.sizeOf o
decreasing_by assumption

theorem fmax_take {f : Oct → Nat} {is : List Oct} {i : Nat} (h : i < is.length) : ((is.take (i + 1)).map f).foldl max 0 = max (((is.take i).map f).foldl max 0) (f is[i]) := by
  rw [List.take_succ_eq_append_getElem h, List.map_append, List.foldl_append]; rfl

theorem fmax_le_sum {f : Oct → Nat} : ∀ (is : List Oct) (a : Nat), (is.map f).foldl max a ≤ a + (is.map f).sum
  | [], a => by simp
  | x :: is, a => by
    have := fmax_le_sum (f := f) is (max a (f x))
    simp only [List.map_cons, List.foldl_cons, List.sum_cons]
    omega

theorem dep_le_size : ∀ (o : Oct), o.dep ≤ o.size
  | .mk t bs is => by
    rw [dep_mk, size_mk]
    have : ∀ (l : List Oct), (∀ x ∈ l, SizeOf.sizeOf x < SizeOf.sizeOf (Oct.mk t bs is)) → (l.map Oct.dep).sum ≤ Oct.sizeL l := by
      intro l
      induction l with
      | nil => intro _; simp [Oct.sizeL]
      | cons a l ih =>
        intro h
        have h1 := ih fun x hx => h x (List.mem_cons_of_mem _ hx)
        have h2 := h a List.mem_cons_self
        have h3 := dep_le_size a
        rw [sizeL_cons, List.map_cons, List.sum_cons]
        omega
    have h1 := this is fun x hx => by have := List.sizeOf_lt_of_mem hx; simp only [Oct.mk.sizeOf_spec]; omega
    have h2 := fmax_le_sum (f := Oct.dep) is 0
    omega
termination_by o => SizeOf.sizeOf o
decreasing_by assumption

theorem dep_get {is : List Oct} {i : Nat} (h : i < is.length) : is[i].dep ≤ is[i].size := dep_le_size _

/-- The size as the reference counts it is at most the size. -/
theorem rsz_le_size : ∀ (o : Oct), o.rsz ≤ o.size ∧ (o.rsz ≤ 65536 → o.rsz = o.size)
  | .mk t bs is => by
    rw [rsz_mk, size_mk]
    have hL : ∀ (l : List Oct), (∀ x ∈ l, SizeOf.sizeOf x < SizeOf.sizeOf (Oct.mk t bs is)) → (l.map Oct.rsz).sum ≤ Oct.sizeL l ∧ ((l.map Oct.rsz).sum ≤ 65536 → (l.map Oct.rsz).sum = Oct.sizeL l) := by
      intro l
      induction l with
      | nil => intro _; simp [Oct.sizeL]
      | cons a l ih =>
        intro h
        have h1 := ih fun x hx => h x (List.mem_cons_of_mem _ hx)
        have h2 := h a List.mem_cons_self
        have h3 := rsz_le_size a
        rw [sizeL_cons, List.map_cons, List.sum_cons]
        exact ⟨by omega, fun h => by have := h1.2 (by omega); have := h3.2 (by omega); omega⟩
    have h1 := hL is fun x hx => by have := List.sizeOf_lt_of_mem hx; simp only [Oct.mk.sizeOf_spec]; omega
    -- the lengths
    have hw : ∀ n, n < 16777216 → (rLen n).length = wide n := by
      intro n hn
      unfold rLen wide
      by_cases a1 : n < 128
      · rw [if_pos a1, if_pos a1]; rfl
      · rw [if_neg a1, if_neg a1]
        have b0 : bitLen n = bitLen (n / 2 ^ 7) + 7 := bitLen_shift (k := 7) (by omega)
        by_cases a2 : n < 256
        · rw [if_pos a2]
          have b1 := bitLen_lt (x := n) (k := 8) (by omega)
          have b2 : 0 < bitLen (n / 2 ^ 7) := by unfold bitLen; rw [if_neg (by omega)]; omega
          show 2 = _
          omega
        · rw [if_neg a2]
          have c0 : bitLen n = bitLen (n / 2 ^ 8) + 8 := bitLen_shift (k := 8) (by omega)
          have c2 : 0 < bitLen (n / 2 ^ 8) := by unfold bitLen; rw [if_neg (by omega)]; omega
          by_cases a3 : n < 65536
          · rw [if_pos a3]
            have b1 := bitLen_lt (x := n) (k := 16) (by omega)
            show 3 = _
            omega
          · rw [if_neg a3]
            have d0 : bitLen n = bitLen (n / 2 ^ 16) + 16 := bitLen_shift (k := 16) (by omega)
            have d2 : 0 < bitLen (n / 2 ^ 16) := by unfold bitLen; rw [if_neg (by omega)]; omega
            have b1 := bitLen_lt (x := n) (k := 24) (by omega)
            show 4 = _
            omega
    have hge : ∀ n, 16777216 ≤ n → 4 ≤ wide n := by
      intro n hn
      unfold wide
      rw [if_neg (by omega)]
      have d0 : bitLen n = bitLen (n / 2 ^ 24) + 24 := bitLen_shift (k := 24) (by omega)
      have d2 : 0 < bitLen (n / 2 ^ 24) := by unfold bitLen; rw [if_neg (by omega)]; omega
      omega
    have hwm : ∀ a b, a ≤ b → (rLen a).length ≤ wide b := by
      intro a b hab
      have mono : (rLen a).length ≤ (rLen b).length := by
        unfold rLen
        repeat' split
        all_goals first | omega | simp
      by_cases hb : b < 16777216
      · rw [← hw b hb]; exact mono
      · have := hge b (by omega); have := rLen_le a; omega
    refine ⟨?_, fun h => ?_⟩
    · have := hwm (bs.length + (is.map Oct.rsz).sum) (bs.length + Oct.sizeL is) (by omega)
      omega
    · have h2 := h1.2 (by omega)
      rw [h2] at h ⊢
      rw [hw _ (by omega)]
termination_by o => SizeOf.sizeOf o
decreasing_by assumption

end Go.Gp.Tryd

/- The reference's octets: shapes; Check. -/
namespace Go.Gp.Tryd
open Go.Proofs
set_option linter.unusedVariables false
set_option linter.unusedSimpArgs false
set_option maxHeartbeats 4000000
set_option maxRecDepth 100000

def refChk (o : Oct) : Nat := if 4000 < o.cnt ∨ 12 < o.dep then 4 else if o.shp then (if 65536 < o.rsz then 4 else 0) else 8

end Go.Gp.Tryd

/- The reference's octets: Twin, Seq. -/
namespace Go.Gp.Tryd
open Go.Proofs
set_option linter.unusedVariables false
set_option linter.unusedSimpArgs false
set_option maxHeartbeats 4000000
set_option maxRecDepth 100000

theorem cells_one (o : Oct) : ∀ y ∈ [o.cells], ∀ a ∈ y, a.one = true := by
  intro y hy a ha
  have hy' := List.mem_singleton.1 hy
  subst hy'
  simp only [Oct.cells, octA, List.mem_cons, List.not_mem_nil, or_false] at ha
  rcases ha with rfl | rfl | rfl <;> rfl
theorem cellsL_take {is : List Oct} {i : Nat} (h : i < is.length) : Oct.cellsL (is.take i) ++ [is[i].cells] = Oct.cellsL (is.take (i + 1)) := by
  rw [List.take_succ_eq_append_getElem h, cellsL_map, cellsL_map, List.map_append]; rfl

end Go.Gp.Tryd

/- The reference's octets: Put. -/
namespace Go.Gp.Tryd
open Go.Proofs
set_option linter.unusedVariables false
set_option linter.unusedSimpArgs false
set_option maxHeartbeats 4000000
set_option maxRecDepth 100000

theorem bytes_one (bs : List UInt8) : ∀ y ∈ bs.map byteRow, ∀ a ∈ y, a.one = true := by
  intro y hy a ha
  obtain ⟨b, _, rfl⟩ := List.mem_map.1 hy
  have ha' := List.mem_singleton.1 ha
  subst ha'
  rfl

theorem ofNat_mod (n m : Nat) (h : n % 256 = m % 256) : UInt8.ofNat n = UInt8.ofNat m := UInt8.toNat_inj.1 (by rw [UInt8.toNat_ofNat', UInt8.toNat_ofNat']; exact h)

theorem rLen_lenB {n : Nat} (h : n < 16777216) : rLen n = lenB n := by
  unfold rLen lenB
  by_cases a1 : n < 128
  · rw [if_pos a1, if_pos a1]
  · rw [if_neg a1, if_neg a1]
    have b0 : bitLen n = bitLen (n / 2 ^ 7) + 7 := bitLen_shift (k := 7) (by omega)
    have b2 : 0 < bitLen (n / 2 ^ 7) := by unfold bitLen; rw [if_neg (by omega)]; omega
    by_cases a2 : n < 256
    · rw [if_pos a2]
      have b1 := bitLen_lt (x := n) (k := 8) (by omega)
      have hw : wide n = 2 := by unfold wide; rw [if_neg a1]; omega
      rw [hw]
      show [129, UInt8.ofNat n] = [UInt8.ofNat 129, UInt8.ofNat (n / 1)]
      rw [Nat.div_one]; rfl
    · rw [if_neg a2]
      have c0 : bitLen n = bitLen (n / 2 ^ 8) + 8 := bitLen_shift (k := 8) (by omega)
      have c2 : 0 < bitLen (n / 2 ^ 8) := by unfold bitLen; rw [if_neg (by omega)]; omega
      by_cases a3 : n < 65536
      · rw [if_pos a3]
        have b1 := bitLen_lt (x := n) (k := 16) (by omega)
        have hw : wide n = 3 := by unfold wide; rw [if_neg a1]; omega
        rw [hw]
        show [130, UInt8.ofNat (n / 256), UInt8.ofNat n] = [UInt8.ofNat 130, UInt8.ofNat (n / 256), UInt8.ofNat (n / 1)]
        rw [Nat.div_one]; rfl
      · rw [if_neg a3]
        have d0 : bitLen n = bitLen (n / 2 ^ 16) + 16 := bitLen_shift (k := 16) (by omega)
        have d2 : 0 < bitLen (n / 2 ^ 16) := by unfold bitLen; rw [if_neg (by omega)]; omega
        have b1 := bitLen_lt (x := n) (k := 24) (by omega)
        have hw : wide n = 4 := by unfold wide; rw [if_neg a1]; omega
        rw [hw]
        show [131, UInt8.ofNat (n / 65536), UInt8.ofNat (n / 256), UInt8.ofNat n] = [UInt8.ofNat 131, UInt8.ofNat (n / 65536), UInt8.ofNat (n / 256), UInt8.ofNat (n / 1)]
        rw [Nat.div_one]; rfl

theorem enc_mk (t : UInt8) (bs : List UInt8) (is : List Oct) : (Oct.mk t bs is).enc = [t] ++ (lenB (bs ++ Oct.encL is).length ++ (bs ++ Oct.encL is)) := by
  rw [List.length_append, encL_length]; rfl

end Go.Gp.Tryd

/- The reference's octets: head. -/
namespace Go.Gp.Tryd
open Go.Proofs
set_option linter.unusedVariables false
set_option linter.unusedSimpArgs false
set_option maxHeartbeats 4000000
set_option maxRecDepth 100000

/-- Tag, beginning of the content, its length. -/
def headP : List UInt8 → Option (UInt8 × Nat × Nat)
  | [] => none
  | tg :: r => if tg = 0 then none else match lenOf r with
    | none => none
    | some (n, r2) => some (tg, 1 + (r.length - r2.length), n)
def headV : Option (UInt8 × Nat × Nat) → AV
  | some (t, s, n) => .tup [u8 t, .int .i64 (s : Nat), .int .i64 (n : Nat), .bool true]
  | none => .tup [.int .u8 0, .int .i64 0, .int .i64 0, .bool false]
theorem headV_bd (n : Nat) (x : Option (UInt8 × Nat × Nat)) : Bd n (headV x) := by
  cases x with
  | none =>
    refine .tup fun e he => ?_
    simp only [List.mem_cons, List.not_mem_nil, or_false] at he
    rcases he with rfl | rfl | rfl | rfl
    · exact .int
    · exact .int
    · exact .int
    · exact .bool
  | some x =>
    refine .tup fun e he => ?_
    simp only [List.mem_cons, List.not_mem_nil, or_false] at he
    rcases he with rfl | rfl | rfl | rfl
    · exact .int
    · exact .int
    · exact .int
    · exact .bool

theorem rLen_len {n : Nat} (h : n < 16777216) : (rLen n).length = wide n := by rw [rLen_lenB h, lenB_length]

end Go.Gp.Tryd

/- The reference's octets: take, Decode. -/
namespace Go.Gp.Tryd
open Go.Proofs
set_option linter.unusedVariables false
set_option linter.unusedSimpArgs false
set_option maxHeartbeats 4000000
set_option maxRecDepth 100000

/-- No tag is nought. -/
def Oct.clean : Oct → Bool
  | .mk t _ is => t != 0 && (is.attach.map fun x => x.1.clean).all id
termination_by o => SizeOf.sizeOf o
decreasing_by have := List.sizeOf_lt_of_mem x.2; simp only [Oct.mk.sizeOf_spec]; omega
theorem clean_mk (t : UInt8) (bs : List UInt8) (is : List Oct) : (Oct.mk t bs is).clean = (t != 0 && (is.map Oct.clean).all id) := by rw [Oct.clean, List.attach_map_val (f := Oct.clean)]

/-- What the reference takes. -/
def tk (k : Nat) (b : List UInt8) : Option (Oct × List UInt8) := match parse k b with
  | some (o, r) => if o.clean then some (o, r) else none
  | none => none
def tkAll (k : Nat) (b : List UInt8) : Option (List Oct) := match parseAll k b with
  | some os => if (os.map Oct.clean).all id then some os else none
  | none => none
theorem tkAll_nil (k : Nat) : tkAll k [] = some [] := rfl
theorem tkAll_cons (k : Nat) (c : UInt8) (r : List UInt8) : tkAll k (c :: r) = match tk k (c :: r) with
    | none => none
    | some (o, rest) => (tkAll k rest).map (o :: ·) := by
  unfold tkAll tk
  rw [parseAll_cons]
  cases hp : parse k (c :: r) with
  | none => rfl
  | some x =>
    obtain ⟨o, rest⟩ := x
    dsimp only
    cases hc : o.clean with
    | false =>
      simp only [Bool.false_eq_true, if_false]
      cases parseAll k rest with
      | none => rfl
      | some os =>
        have e : (List.map Oct.clean (o :: os)).all id = false := by simp [hc]
        simp only [Option.map_some, e, Bool.false_eq_true, if_false]
    | true =>
      simp only [if_true]
      cases parseAll k rest with
      | none => rfl
      | some os =>
        have e : (List.map Oct.clean (o :: os)).all id = (List.map Oct.clean os).all id := by simp [hc]
        simp only [Option.map_some, e]
        cases (List.map Oct.clean os).all id <;> rfl
theorem tk_cons (k : Nat) (tg : UInt8) (r : List UInt8) : tk (k + 1) (tg :: r) = if tg = 0 then none else match lenOf r with
    | none => none
    | some (n, r2) => if n ≤ r2.length then
        (if tg.toNat < 128 then some (.mk tg (r2.take n) [], r2.drop n) else (tkAll k (r2.take n)).map fun os => (.mk tg [] os, r2.drop n))
        else none := by
  unfold tk
  rw [parse_cons]
  cases lenOf r with
  | none => simp
  | some x =>
    obtain ⟨n, r2⟩ := x
    dsimp only
    by_cases hn : n ≤ r2.length
    · rw [if_pos hn, if_pos hn]
      by_cases ht : tg.toNat < 128
      · rw [if_pos ht, if_pos ht]
        dsimp only
        by_cases h0 : tg = 0
        · rw [if_pos h0, clean_mk, h0]; rfl
        · rw [if_neg h0, clean_mk]
          have : (tg != 0) = true := by simpa using h0
          rw [this]; rfl
      · rw [if_neg ht, if_neg ht]
        have h0 : ¬ tg = 0 := by intro e; subst e; exact ht (by decide)
        rw [if_neg h0]
        have h1 : (tg != 0) = true := by simpa using h0
        unfold tkAll
        cases parseAll k (r2.take n) with
        | none => rfl
        | some os =>
          simp only [Option.map_some, clean_mk, h1, Bool.true_and]
          cases (List.map Oct.clean os).all id <;> rfl
    · rw [if_neg hn, if_neg hn]
      simp

theorem tk_le {k : Nat} {b : List UInt8} {o : Oct} {r : List UInt8} (h : tk k b = some (o, r)) : r.length + 2 ≤ b.length := by
  unfold tk at h
  split at h
  · rename_i o' r' hp
    split at h
    · injection h with h
      injection h with h1 h2
      subst h1; subst h2
      exact parse_le hp
    · cases h
  · cases h

def takeV (k : Nat) (b : List UInt8) : AV := match tk k b with
  | some (o, r) => .tup [.agg o.cells, .int .i64 ((b.length - r.length : Nat) : Int), .bool true]
  | none => .tup [.agg zeroOct.cells, .int .i64 0, .bool false]
theorem takeV_bd (n k : Nat) (b : List UInt8) : Bd n (takeV k b) := by
  unfold takeV
  split
  all_goals
    refine .tup fun e he => ?_
    simp only [List.mem_cons, List.not_mem_nil, or_false] at he
    rcases he with rfl | rfl | rfl
    · exact Oct.bdA _ _
    · exact .int
    · exact .bool

theorem zeroOct_sub : Sub (.agg [.int .u8 0, .sl .full 0 [], .sl .full 0 []]) (.agg zeroOct.cells) := Sub.agg (vs := zeroOct.cells) ⟨Sub.refl _, Sub.empty, Sub.empty, trivial⟩

theorem headP_cons (tg : UInt8) (r : List UInt8) : headP (tg :: r) = if tg = 0 then none else match lenOf r with
    | none => none
    | some (n, r2) => some (tg, 1 + (r.length - r2.length), n) := rfl

end Go.Gp.Tryd
