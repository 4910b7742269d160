/- Part of a proof: GdF6, GdR1, GdR2, GdR3, GdR4, GdR5, GdR6, GdR7, GdR8, GdP2, GdR9, GdR10, GdR11, GdP3, GdP4, GdW10, GdX1, GdP6, GdP7, GdY1 -/
import Derived.Test.YtmacdhglhafldaaDoorK12
import Derived.Test.YtmacdhglhafldaaDoorK18
import Derived.Test.YtmacdhglhafldaaDoorK20
import Derived.Test.YtmacdhglhafldaaDoorK22

/- The manifest: Match. -/
namespace Go.Gp.Tryd
open Go.Proofs
set_option linter.unusedVariables false
set_option linter.unusedSimpArgs false
set_option maxHeartbeats 4000000
set_option maxRecDepth 100000

def strs (l : List (List UInt8)) : List (List AV) := l.map fun s => [.str s]
structure Rep where
  miss : List (List UInt8)
  wrong : List (List UInt8)
  extra : List (List UInt8)
def Rep.av (r : Rep) : AV := .agg [.sl .no 1 (strs r.miss), .sl .no 1 (strs r.wrong), .sl .no 1 (strs r.extra)]
def rep0 : Rep := ⟨[], [], []⟩
def fnames (fs : List File) : List (List UInt8) := fs.map (·.name)
def matchE (m : Man) (fs : List NFile) : Int := if check m = 0 then byNameE fs else check m
def matchR (m : Man) (fs : List NFile) : Rep :=
  if matchE m fs = 0 then ⟨fnames (m.fs.filter (missF fs)), fnames (m.fs.filter (wrongF fs)), sortB ((names fs).filter fun k => !(fnames m.fs).contains k)⟩ else rep0
theorem bd_strs (n : Nat) (l : List (List UInt8)) : Bd n (.sl .no 1 (strs l)) := .sl (fun _ _ e => by cases e) fun x hx e he => by
  obtain ⟨s, _, rfl⟩ := List.mem_map.1 hx
  have := List.mem_singleton.1 he
  subst this
  exact .str
theorem rep_bd (n : Nat) (r : Rep) (k : Int) : Bd n (.tup [r.av, .int .i64 k]) := .tup fun x hx => by
  simp only [List.mem_cons, List.not_mem_nil, or_false] at hx
  rcases hx with rfl | rfl
  · refine .agg fun y hy => ?_
    simp only [List.mem_cons, List.not_mem_nil, or_false] at hy
    rcases hy with rfl | rfl | rfl <;> exact bd_strs n _
  · exact .int
theorem rep0_sub (k : Int) : Sub (.tup [.agg [.sl .full 0 [], .sl .full 0 [], .sl .full 0 []], .int .i64 k]) (.tup [rep0.av, .int .i64 k]) :=
  Sub.tup (vs := [rep0.av, .int .i64 k]) ⟨Sub.agg (vs := [.sl .no 1 [], .sl .no 1 [], .sl .no 1 []]) ⟨Sub.empty, Sub.empty, Sub.empty, trivial⟩, Sub.refl _, trivial⟩
theorem nameIts_strs (l : List File) : nameIts l = strs (fnames l) := by simp [nameIts, strs, fnames]
def nameX (x : List AV) : List UInt8 := strA1 (x.headD .nilp)
def keepStep (l : List (List UInt8)) (x : List AV) : List (List UInt8) × Option Code := (l ++ [nameX x], none)
theorem runStep_keep : ∀ (ns l : List (List UInt8)), runStep keepStep l (strs ns) = (l ++ ns, none)
  | [], l => by rw [List.append_nil]; rfl
  | x :: ns, l => by
    show runStep keepStep (l ++ [x]) (strs ns) = _
    rw [runStep_keep ns, List.append_assoc]; rfl
theorem strs_len (l : List (List UInt8)) : (strs l).length = l.length := List.length_map _
theorem strs_snoc (l : List (List UInt8)) (s : List UInt8) : strs l ++ [[.str s]] = strs (l ++ [s]) := by simp [strs]
theorem obd_rep {n a b : Nat} {M l e : List (List UInt8)} {t1 t2 : Tag} (h1 : t1 = .full ∨ (∃ m j, t1 = .row m j ∧ m + j < n)) (h2 : t2 = .full ∨ (∃ m j, t2 = .row m j ∧ m + j < n)) : OBd n (.cells [.sl t1 1 (strs M), .sl t2 1 (strs l), .sl .full 0 []]) := by
  have hb : ∀ (t : Tag) (l : List (List UInt8)), (t = .full ∨ (∃ m j, t = .row m j ∧ m + j < n)) → Bd n (.sl t 1 (strs l)) := fun t l h => by
    have := bd_strs n l
    cases this with
    | sl _ h9 =>
      rcases h with rfl | ⟨m, j, rfl, h⟩
      · exact .sl (fun _ _ e => by cases e) h9
      · exact .sl (fun _ _ e => by cases e; exact h) h9
  refine obd_cells fun x hx => ?_
  simp only [List.mem_cons, List.not_mem_nil, or_false] at hx
  rcases hx with rfl | rfl | rfl
  · exact hb _ _ h1
  · exact hb _ _ h2
  · exact .sl (fun _ _ e => by cases e) (by simp)

theorem match_A (m : Man) (fs : List NFile) (H : List AObj) (hm : m.fs.length ≤ 1000000000) (hl : fs.length ≤ 1000000000) (hb : ∀ f ∈ fs, f.bytes.length ≤ 1000000000) :
    CallsA E 15 [m.av .no, .sl .no 2 (nrows fs)] H (Is H (.tup [(matchR m fs).av, .int .i64 (matchE m fs)])) := by
  have hC := fun H => Check_A m H (by omega)
  have hN := fun H => byName_A fs H hl
  have hfin : ∀ (k : Int) {t : Slots} {L : List AObj} {xs : List AV}, matchE m fs = k → k ≠ 0 → xs = [.agg [.sl .full 0 [], .sl .full 0 [], .sl .full 0 []], .int .i64 k] → resL L E.T t [.cell 4 40, .tmp 5] = some xs → resN H.length t [.cell 4 40, .tmp 5] = [H.length, H.length] → retK E [.cell 4 40, .tmp 5] H (Is H (.tup [(matchR m fs).av, .int .i64 (matchE m fs)])) .ret t (H ++ L) := fun k t L xs h hk e1 e2 e3 =>
    by subst e1; exact retK.sub (.inr rfl) rfl (TrOk.refl H) (L := L) e2 e3 (rep0_sub k) (rep_bd _ _ _) ⟨rfl, by rw [matchR, h, if_neg hk]⟩
  refine .enter Tryd.func15 rfl rfl rfl 65 Tryd.ntmps15 (Nat.le_of_ble_eq_true rfl) ?_
  by_cases hc : check m = 0
  · have hmk : matchE m fs = byNameE fs := by rw [matchE, if_pos hc]
    rw [hc] at hC
    by_cases he : byNameE fs = 0
    · have hE : matchE m fs = 0 := by rw [hmk, he]
      have hR : matchR m fs = ⟨fnames (m.fs.filter (missF fs)), fnames (m.fs.filter (wrongF fs)), sortB ((names fs).filter fun k => !(fnames m.fs).contains k)⟩ := by rw [matchR, if_pos hE]
      rw [hE, hR]
      obtain ⟨g1, g2, g3⟩ := byNameE_ok he
      have hN0 : ∀ o1 o2 : AObj, CallsA E 30 [.sl .no 2 (nrows fs)] (H ++ [o1, o2]) (fun e H' => H' = H ++ [o1, o2, .map (entries fs 0) fs.length] ∧ e = .ret (.tup [.map H.length 2, .int .i64 0])) := fun o1 o2 =>
        CallsA.reR (r0 := .tup [.map (H ++ [o1, o2]).length 0, .int .i64 0]) ((hN _).mono fun e H' h => by rw [byNameR, if_pos he] at h; exact h) (Sub.tup ⟨Sub.map (by simp), Sub.refl _, trivial⟩) (by simp)
      have hT0 : ∀ o1 o2 o3 o4 o5 : AObj, CallsA E 36 [m.av .no, .func 37 [.ptr H.length 3 0]] (H ++ [o1, o2, o3, o4, o5]) (fun e H' => H' = H ++ [o1, o2, o3, o4, o5, .cells (m.cells .no), .cells [.func 37 [.ptr H.length 3 0]]] ∧ e = .ret (.func 70 [.ptr H.length 5 0, .ptr H.length 6 0])) := fun o1 o2 o3 o4 o5 =>
        CallsA.reR (those_A m _ rfl _) (Sub.func ⟨Sub.ptr (by simp), Sub.ptr (by simp), trivial⟩) (by simp)
      repeat' first
        | refine WpA.seq ?_
        | refine WpA.region ?_
        | refine WpOps.op _ rfl rfl rfl rfl rfl ?_
        | refine WpOps.box _ rfl rfl rfl rfl rfl ?_
        | refine WpOps.alloc _ rfl rfl rfl rfl rfl rfl ?_
        | refine WpOps.store rfl rfl rfl rfl rfl rfl rfl rfl rfl rfl ?_
        | (refine WpOps.call rfl rfl rfl rfl rfl (by exact hC _) ?_; rintro _ _ ⟨rfl, rfl⟩)
        | (refine WpOps.call rfl rfl rfl rfl rfl (by exact hN0 _ _) ?_; rintro _ _ ⟨rfl, rfl⟩)
        | (refine WpOps.call rfl rfl rfl rfl rfl (by exact hT0 _ _ _ _ _) ?_; rintro _ _ ⟨rfl, rfl⟩)
        | refine WpA.block ?_
        | refine WpOps.nil ?_
        | refine WpA.skip ?_
        | refine WpA.condF rfl ?_
      have hpre1 : ∀ Y : List AObj, Y[H.length + 3]? = some (.cells [.map H.length 2]) → Y[H.length + 2]? = some (.map (entries fs 0) fs.length) → namedPre fs H.length 3 H.length 2 Y := fun Y h1 h2 => ⟨h1, h2⟩
      refine WpA.adoptC (j := 4) (q := 0) 1 rfl rfl ?_
      refine WpA.weak (T := [(2, .ptr H.length 0 0), (4, .ptr H.length 1 0), (7, .ptr H.length 3 0), (9, .ptr H.length 4 0), (31, .func 70 [.ptr H.length 5 0, .ptr H.length 6 0])]) ⟨rfl, rfl, rfl, rfl, rfl, trivial⟩ ?_
      obtain ⟨o5, ho5⟩ : ∃ o5, o5 = AObj.cells (m.cells .no) := ⟨_, rfl⟩
      obtain ⟨o6, ho6⟩ : ∃ o6, o6 = AObj.cells [.func 37 [.ptr H.length 3 0]] := ⟨_, rfl⟩
      let HF : List (List UInt8) → List AObj := fun l => H ++ [.cells (m.cells .no), .cells [.sl .full 0 [], .sl .full 0 [], .sl .full 0 []], .map (entries fs 0) fs.length, .cells [.map H.length 2], .cells [.sl (.row H.length 7) 1 (strs l), .sl .full 0 [], .sl .full 0 []], o5, o6, .tail (strs l).length 1]
      refine WpA.heap (H' := HF []) (by
        show _ = H ++ [_, _, _, _, _, o5, o6, _]
        rw [ho5, ho6]; rfl) ?_
      have hlen : ∀ l, (HF l).length = H.length + 8 := fun l => by show (H ++ [_, _, _, _, _, _, _, _]).length = _; simp
      refine WpA.rangeQ (pl := [32]) (N := H.length + 8) (ι := List AV) HF keepStep (fun h l => strs l = h) [] rfl rfl rfl rfl (those1_A m hm 37 [.ptr H.length 3 0] (missF fs) (namedPre fs H.length 3 H.length 2) (fun f _ H' X hp => match1_A fs H.length 3 H.length 2 f H' X hp) H.length 5 6) (fun l X => ?_) rfl hlen ?_ ?_ ?_ (by intro p hp; simp at hp; subst hp; decide) ?_ ?_ ?_ (fun h => by cases h)
      · exact ⟨by rw [← ho5]; exact get_mid rfl, by rw [← ho6]; exact get_mid rfl, get_mid rfl, get_mid rfl⟩
      · intro l l' i o hi
        have e : ∀ l, HF l = H ++ [.cells (m.cells .no), .cells [.sl .full 0 [], .sl .full 0 [], .sl .full 0 []], .map (entries fs 0) fs.length, .cells [.map H.length 2], .cells [.sl (.row H.length 7) 1 (strs l), .sl .full 0 [], .sl .full 0 []], o5, o6, .tail (strs l).length 1] := fun _ => rfl
        rw [e] at hi ⊢
        rcases Nat.lt_or_ge i H.length with hlt | hge
        · rw [List.getElem?_append_left hlt] at hi ⊢; exact .inl hi
        · rw [List.getElem?_append_right hge] at hi ⊢
          generalize i - H.length = j at hi ⊢
          rcases j with _ | _ | _ | _ | _ | _ | _ | _ | j
          · exact .inl hi
          · exact .inl hi
          · exact .inl hi
          · exact .inl hi
          · injection hi with hi; subst hi
            refine .inr (obd_cells fun x hx => ?_)
            simp only [List.mem_cons, List.not_mem_nil, or_false] at hx
            have hbs := bd_strs (H.length + 8) l'
            cases hbs with
            | sl _ h9 =>
              rcases hx with rfl | rfl | rfl
              · exact .sl (fun _ _ e => by cases e; omega) h9
              · exact .sl (fun _ _ e => by cases e) (by simp)
              · exact .sl (fun _ _ e => by cases e) (by simp)
          · exact .inl hi
          · exact .inl hi
          · injection hi with hi; subst hi; exact .inr obd_tail
          · cases hi
      · refine ⟨.ptr (by omega), .ptr (by omega), .ptr (by omega), .ptr (by omega), .func ?_, trivial⟩
        intro e he
        simp only [List.mem_cons, List.not_mem_nil, or_false] at he
        rcases he with rfl | rfl <;> exact .ptr (by omega)
      · intro h x hx
        have : x ∈ nameIts (m.fs.filter (missF fs)) := hx.subset (by simp)
        obtain ⟨f, _, rfl⟩ := List.mem_map.1 this
        rfl
      · rintro h l x rfl hx _
        have : x ∈ nameIts (m.fs.filter (missF fs)) := hx.subset (by simp)
        obtain ⟨f, _, rfl⟩ := List.mem_map.1 this
        exact (strs_snoc _ _).symm
      · rintro rec l h l0 x X hrec rfl hP B B' hB hB' hBl _
        have hll := hP.length_le
        rw [List.length_append, strs_len, nameIts, List.length_map] at hll
        have hfl := List.length_filter_le (missF fs) m.fs
        have : x ∈ nameIts (m.fs.filter (missF fs)) := hP.subset (by simp)
        obtain ⟨f, _, rfl⟩ := List.mem_map.1 this
        have hB2 : B' = (H ++ [.cells (m.cells .no), .cells [.sl .full 0 [], .sl .full 0 [], .sl .full 0 []], .map (entries fs 0) fs.length, .cells [.map H.length 2], .cells [.sl (.row H.length 7) 1 (strs l0), .sl .full 0 [], .sl .full 0 []], o5, o6, .tail (strs l0).length 1]) ++ (rec .busy none :: X) := hB'
        have b4 : B'[H.length + 4]? = some (.cells [.sl (.row H.length 7) 1 (strs l0), .sl .full 0 [], .sl .full 0 []]) := by rw [hB2]; exact get_mid rfl
        have b7 : B'[H.length + 7]? = some (.tail (strs l0).length 1) := by rw [hB2]; exact get_mid rfl
        repeat' first
          | refine WpA.region ?_
          | refine WpOps.op _ rfl rfl rfl rfl rfl ?_
          | refine WpOps.nil ?_
        refine ⟨rfl, _, rfl, ?_⟩
        obtain ⟨B3, hB3⟩ : ∃ B3, B3 = B'.set (H.length + 7) (.tail (strs l0 ++ [[AV.str f.name]]).length 1) := ⟨_, rfl⟩
        have c4 : B3[H.length + 4]? = some (.cells [.sl (.row H.length 7) 1 (strs l0), .sl .full 0 [], .sl .full 0 []]) := by rw [hB3, hB2, set_mid (Nat.le_of_ble_eq_true rfl)]; exact get_mid rfl
        repeat' first
          | (refine WpOps.p1 rfl rfl rfl (.loadN rfl rfl (getL b4) rfl rfl rfl rfl) ?_)
          | refine WpA.region ?_
          | refine WpOps.op _ rfl rfl rfl rfl rfl ?_
          | (refine WpOps.buildSlice _ rfl rfl rfl rfl rfl rfl rfl rfl rfl rfl rfl ?_)
          | refine WpA.block ?_
        refine WpOps.appX (xs := strs l0) (ys := [[AV.str f.name]]) rfl rfl rfl rfl rfl rfl rfl (fun k h => by cases h) rfl rfl rfl rfl b7 rfl ?_ ?_ ?_
        · intro y hy a ha
          have := List.mem_singleton.1 hy; subst this
          have := List.mem_singleton.1 ha; subst this
          rfl
        · show ((strs l0).length + 1) * 16 ≤ _
          rw [strs_len]; omega
        · refine WpOps.heap (H' := B3 ++ []) (by rw [hB3]; rfl) ?_
          repeat' first
            | refine WpOps.op _ rfl rfl rfl rfl rfl ?_
            | (refine WpOps.u1 rfl rfl (.storeB rfl rfl c4 rfl rfl rfl rfl rfl (Nat.succ_pos _)) ?_)
            | refine WpOps.nil ?_
          refine ⟨[], ?_, rfl⟩
          show B3.set (H.length + 4) (.cells [.sl (.row H.length 7) 1 (strs l0 ++ [[AV.str f.name]]), .sl .full 0 [], .sl .full 0 []]) ++ [] = (HF (l0 ++ [f.name]) ++ (rec .busy none :: X)) ++ []
          rw [hB3, hB2, set_mid (Nat.le_of_ble_eq_true rfl)]
          simp only [List.set_cons_succ, List.set_cons_zero]
          rw [set_mid (Nat.le_of_ble_eq_true rfl), strs_snoc]
          rfl
      · rintro rec its rfl
        rw [nameIts_strs, runStep_keep, List.nil_append]
        obtain ⟨o8, ho8⟩ : ∃ o8, o8 = rec .exhausted none := ⟨_, rfl⟩
        obtain ⟨M, hM⟩ : ∃ M, M = fnames (m.fs.filter (missF fs)) := ⟨_, rfl⟩
        rw [← ho8, ← hM]
        show WpA E none 65 _ _ _ ((H ++ [.cells (m.cells .no), .cells [.sl .full 0 [], .sl .full 0 [], .sl .full 0 []], .map (entries fs 0) fs.length, .cells [.map H.length 2], .cells [.sl (.row H.length 7) 1 (strs M), .sl .full 0 [], .sl .full 0 []], o5, o6, .tail (strs M).length 1]) ++ [o8])
        rw [List.append_assoc]
        clear hlen HF
        have hT2 : ∀ o0 o1 o2 o3 o4 o5 o6 o7 o8 : AObj, CallsA E 36 [m.av .no, .func 39 [.ptr H.length 3 0]] (H ++ [o0, o1, o2, o3, o4, o5, o6, o7, o8]) (fun e H' => H' = H ++ [o0, o1, o2, o3, o4, o5, o6, o7, o8, .cells (m.cells .no), .cells [.func 39 [.ptr H.length 3 0]]] ∧ e = .ret (.func 70 [.ptr H.length 9 0, .ptr H.length 10 0])) := fun o0 o1 o2 o3 o4 o5 o6 o7 o8 =>
          CallsA.reR (those_A m _ rfl _) (Sub.func ⟨Sub.ptr (by simp), Sub.ptr (by simp), trivial⟩) (by simp)
        repeat' first
          | refine WpA.seq ?_
          | refine WpA.region ?_
          | refine WpOps.op _ rfl rfl rfl rfl rfl ?_
          | (refine WpOps.call rfl rfl rfl rfl rfl (by exact hT2 _ _ _ _ _ _ _ _ _) ?_; rintro _ _ ⟨rfl, rfl⟩)
          | refine WpA.block ?_
          | refine WpOps.nil ?_
        refine WpA.adoptC (j := 4) (q := 1) 1 rfl rfl ?_
        refine WpA.weak (T := [(2, .ptr H.length 0 0), (4, .ptr H.length 1 0), (7, .ptr H.length 3 0), (9, .ptr H.length 4 0), (41, .func 70 [.ptr H.length 9 0, .ptr H.length 10 0])]) ⟨rfl, rfl, rfl, rfl, rfl, trivial⟩ ?_
        obtain ⟨o9, ho9⟩ : ∃ o9, o9 = AObj.cells (m.cells .no) := ⟨_, rfl⟩
        obtain ⟨o10, ho10⟩ : ∃ o10, o10 = AObj.cells [.func 39 [.ptr H.length 3 0]] := ⟨_, rfl⟩
        obtain ⟨o7, ho7⟩ : ∃ o7, o7 = AObj.tail (strs M).length 1 := ⟨_, rfl⟩
        let HF : List (List UInt8) → List AObj := fun l => H ++ [.cells (m.cells .no), .cells [.sl .full 0 [], .sl .full 0 [], .sl .full 0 []], .map (entries fs 0) fs.length, .cells [.map H.length 2], .cells [.sl (.row H.length 7) 1 (strs M), .sl (.row H.length 11) 1 (strs l), .sl .full 0 []], o5, o6, o7, o8, o9, o10, .tail (strs l).length 1]
        refine WpA.heap (H' := HF []) (by
          show _ = H ++ [_, _, _, _, _, o5, o6, o7, o8, o9, o10, _]
          rw [ho9, ho10, ho7]; rfl) ?_
        have hlen : ∀ l, (HF l).length = H.length + 12 := fun l => by show (H ++ [_, _, _, _, _, _, _, _, _, _, _, _]).length = _; simp
        refine WpA.rangeQ (pl := [42]) (N := H.length + 12) (ι := List AV) HF keepStep (fun h l => strs l = h) [] rfl rfl rfl rfl (those1_A m hm 39 [.ptr H.length 3 0] (wrongF fs) (namedPre fs H.length 3 H.length 2) (fun f _ H' X hp => match2_A fs hb H.length 3 H.length 2 f H' X hp) H.length 9 10) (fun l X => ?_) rfl hlen ?_ ?_ ?_ (by intro p hp; simp at hp; subst hp; decide) ?_ ?_ ?_ (fun h => by cases h)
        · exact ⟨by rw [← ho9]; exact get_mid rfl, by rw [← ho10]; exact get_mid rfl, get_mid rfl, get_mid rfl⟩
        · intro l l' i o hi
          have e : ∀ l, HF l = H ++ [.cells (m.cells .no), .cells [.sl .full 0 [], .sl .full 0 [], .sl .full 0 []], .map (entries fs 0) fs.length, .cells [.map H.length 2], .cells [.sl (.row H.length 7) 1 (strs M), .sl (.row H.length 11) 1 (strs l), .sl .full 0 []], o5, o6, o7, o8, o9, o10, .tail (strs l).length 1] := fun _ => rfl
          rw [e] at hi ⊢
          rcases Nat.lt_or_ge i H.length with hlt | hge
          · rw [List.getElem?_append_left hlt] at hi ⊢; exact .inl hi
          · rw [List.getElem?_append_right hge] at hi ⊢
            generalize i - H.length = j at hi ⊢
            rcases j with _ | _ | _ | _ | _ | _ | _ | _ | _ | _ | _ | _ | j
            · exact .inl hi
            · exact .inl hi
            · exact .inl hi
            · exact .inl hi
            · injection hi with hi; subst hi
              exact .inr (obd_rep (a := 0) (b := 0) (e := []) (.inr ⟨_, _, rfl, by omega⟩) (.inr ⟨_, _, rfl, by omega⟩))
            · exact .inl hi
            · exact .inl hi
            · exact .inl hi
            · exact .inl hi
            · exact .inl hi
            · exact .inl hi
            · injection hi with hi; subst hi; exact .inr obd_tail
            · cases hi
        · refine ⟨.ptr (by omega), .ptr (by omega), .ptr (by omega), .ptr (by omega), .func ?_, trivial⟩
          intro e he
          simp only [List.mem_cons, List.not_mem_nil, or_false] at he
          rcases he with rfl | rfl <;> exact .ptr (by omega)
        · intro h x hx
          have : x ∈ nameIts (m.fs.filter (wrongF fs)) := hx.subset (by simp)
          obtain ⟨f, _, rfl⟩ := List.mem_map.1 this
          rfl
        · rintro h l x rfl hx _
          have : x ∈ nameIts (m.fs.filter (wrongF fs)) := hx.subset (by simp)
          obtain ⟨f, _, rfl⟩ := List.mem_map.1 this
          exact (strs_snoc _ _).symm
        · rintro rec l h l0 x X hrec rfl hP B B' hB hB' hBl _
          have hll := hP.length_le
          rw [List.length_append, strs_len, nameIts, List.length_map] at hll
          have hfl := List.length_filter_le (wrongF fs) m.fs
          have : x ∈ nameIts (m.fs.filter (wrongF fs)) := hP.subset (by simp)
          obtain ⟨f, _, rfl⟩ := List.mem_map.1 this
          have hB2 : B' = (H ++ [.cells (m.cells .no), .cells [.sl .full 0 [], .sl .full 0 [], .sl .full 0 []], .map (entries fs 0) fs.length, .cells [.map H.length 2], .cells [.sl (.row H.length 7) 1 (strs M), .sl (.row H.length 11) 1 (strs l0), .sl .full 0 []], o5, o6, o7, o8, o9, o10, .tail (strs l0).length 1]) ++ (rec .busy none :: X) := hB'
          have b4 : B'[H.length + 4]? = some (.cells [.sl (.row H.length 7) 1 (strs M), .sl (.row H.length 11) 1 (strs l0), .sl .full 0 []]) := by rw [hB2]; exact get_mid rfl
          have b7 : B'[H.length + 11]? = some (.tail (strs l0).length 1) := by rw [hB2]; exact get_mid rfl
          repeat' first
            | refine WpA.region ?_
            | refine WpOps.op _ rfl rfl rfl rfl rfl ?_
            | refine WpOps.nil ?_
          refine ⟨rfl, _, rfl, ?_⟩
          obtain ⟨B3, hB3⟩ : ∃ B3, B3 = B'.set (H.length + 11) (.tail (strs l0 ++ [[AV.str f.name]]).length 1) := ⟨_, rfl⟩
          have c4 : B3[H.length + 4]? = some (.cells [.sl (.row H.length 7) 1 (strs M), .sl (.row H.length 11) 1 (strs l0), .sl .full 0 []]) := by rw [hB3, hB2, set_mid (Nat.le_of_ble_eq_true rfl)]; exact get_mid rfl
          repeat' first
            | (refine WpOps.p1 rfl rfl rfl (.loadN rfl rfl (getL b4) rfl rfl rfl rfl) ?_)
            | refine WpA.region ?_
            | refine WpOps.op _ rfl rfl rfl rfl rfl ?_
            | (refine WpOps.buildSlice _ rfl rfl rfl rfl rfl rfl rfl rfl rfl rfl rfl ?_)
            | refine WpA.block ?_
          refine WpOps.appX (xs := strs l0) (ys := [[AV.str f.name]]) rfl rfl rfl rfl rfl rfl rfl (fun k h => by cases h) rfl rfl rfl rfl b7 rfl ?_ ?_ ?_
          · intro y hy a ha
            have := List.mem_singleton.1 hy; subst this
            have := List.mem_singleton.1 ha; subst this
            rfl
          · show ((strs l0).length + 1) * 16 ≤ _
            rw [strs_len]; omega
          · refine WpOps.heap (H' := B3 ++ []) (by rw [hB3]; rfl) ?_
            repeat' first
              | refine WpOps.op _ rfl rfl rfl rfl rfl ?_
              | (refine WpOps.u1 rfl rfl (.storeB rfl rfl c4 rfl rfl rfl rfl rfl (Nat.succ_lt_succ (Nat.succ_pos _))) ?_)
              | refine WpOps.nil ?_
            refine ⟨[], ?_, rfl⟩
            show B3.set (H.length + 4) (.cells [.sl (.row H.length 7) 1 (strs M), .sl (.row H.length 11) 1 (strs l0 ++ [[AV.str f.name]]), .sl .full 0 []]) ++ [] = (HF (l0 ++ [f.name]) ++ (rec .busy none :: X)) ++ []
            rw [hB3, hB2, set_mid (Nat.le_of_ble_eq_true rfl)]
            simp only [List.set_cons_succ, List.set_cons_zero]
            rw [set_mid (Nat.le_of_ble_eq_true rfl), strs_snoc]
            rfl
        · rintro rec2 its rfl
          rw [nameIts_strs, runStep_keep, List.nil_append]
          obtain ⟨o12, ho12⟩ : ∃ o12, o12 = rec2 .exhausted none := ⟨_, rfl⟩
          obtain ⟨W, hW⟩ : ∃ W, W = fnames (m.fs.filter (wrongF fs)) := ⟨_, rfl⟩
          obtain ⟨o11, ho11⟩ : ∃ o11, o11 = AObj.tail (strs W).length 1 := ⟨_, rfl⟩
          rw [← ho12, ← hW]
          show WpA E none 65 _ _ _ ((H ++ [.cells (m.cells .no), .cells [.sl .full 0 [], .sl .full 0 [], .sl .full 0 []], .map (entries fs 0) fs.length, .cells [.map H.length 2], .cells [.sl (.row H.length 7) 1 (strs M), .sl (.row H.length 11) 1 (strs W), .sl .full 0 []], o5, o6, o7, o8, o9, o10, .tail (strs W).length 1]) ++ [o12])
          rw [List.append_assoc, ← ho11]
          clear hlen HF
          have hrl := rows_length m.fs
          have hcs := fun i => cutAll_spec (m.fs.take i) (entries_bytes fs 0) (by rw [entries_keys]; exact g3)
          repeat' first
            | refine WpA.seq ?_
            | refine WpA.region ?_
            | refine WpOps.op _ rfl rfl rfl rfl rfl ?_
            | refine WpA.block ?_
            | refine WpOps.nil ?_
          refine WpA.loopG m.fs.length (fun i => [(4, .ptr H.length 1 0), (7, .ptr H.length 3 0), (9, .ptr H.length 4 0), (50, .sl .no 33 (rows m.fs)), (51, .int .i64 (m.fs.length : Nat)), (52, .int .i64 (i : Nat))])
            (fun i => H ++ [.cells (m.cells .no), .cells [.sl .full 0 [], .sl .full 0 [], .sl .full 0 []], .map (cutAll (entries fs 0) (m.fs.take i)) fs.length, .cells [.map H.length 2], .cells [.sl (.row H.length 7) 1 (strs M), .sl (.row H.length 11) 1 (strs W), .sl .full 0 []], o5, o6, o7, o8, o9, o10, o11, o12]) (fun _ => True) trivial ⟨rfl, rfl, rfl, rfl, by rw [← hrl]; rfl, rfl, trivial⟩ rfl (fun _ _ => by simp) (fun i hi _ => ?_) (fun i hi _ => ?_) (fun i hi _ => ?_) (fun _ => ?_) (fun _ => ⟨rfl, rfl, rfl, rfl, rfl, rfl, trivial⟩)
          · refine TrOk.app fun k o hk => ?_
            rcases k with _ | _ | _ | k
            · exact .inl hk
            · exact .inl hk
            · injection hk with hk; subst hk; exact .inr (obd_mapB (hcs _).1)
            · exact .inl hk
          · exact ⟨.ptr (by simp), .ptr (by simp), .ptr (by simp), rows_bd _ _, .int, .int, trivial⟩
          · have hg := rows_get hi
            have hk := keyK_of (hcs i).1.keys
            have hst : cutAll (entries fs 0) (m.fs.take (i + 1)) = cutM (cutAll (entries fs 0) (m.fs.take i)) (.str m.fs[i].name) := by
              rw [List.take_succ_eq_append_getElem hi, cutAll_snoc]
            repeat' first
              | (refine WpOps.elem _ rfl rfl rfl rfl rfl rfl rfl rfl rfl (Int.natCast_nonneg i) hg ?_)
              | refine WpA.seq ?_
              | refine WpA.region ?_
              | refine WpOps.op _ rfl rfl rfl rfl rfl ?_
              | refine WpOps.alloc _ rfl rfl rfl rfl rfl rfl ?_
              | refine WpOps.store rfl rfl rfl rfl rfl rfl rfl rfl rfl rfl ?_
              | (refine WpOps.p1n rfl rfl (.inL (k := 2) (.delete rfl rfl rfl (app_get rfl rfl) rfl rfl hk)) ?_)
              | refine WpA.block ?_
              | refine WpA.exit ?_
              | refine WpOps.nil ?_
              | refine WpA.skip ?_
              | refine WpA.cond _ rfl (fun h => ?_) (fun h => ?_)
            · refine ⟨trivial, ⟨rfl, rfl, rfl, rfl, rfl, congrArg (AV.int .i64) (wrap64 (by omega) (by omega)), trivial⟩, [.cells m.fs[i].row], ?_⟩
              rw [hst]
              exact grow rfl
            · simp at h; omega
          · rw [List.take_length]
            have hcs := hcs m.fs.length
            rw [List.take_length, entries_keys] at hcs
            obtain ⟨es, hes⟩ : ∃ es, es = cutAll (entries fs 0) m.fs := ⟨_, rfl⟩
            rw [← hes] at hcs ⊢
            obtain ⟨q1, q2, q3⟩ := hcs
            have hst := entries_stamps fs
            have hK2 : ∀ o0 o1 o2 o3 o4 o5 o6 o7 o8 o9 o10 o11 o12 : AObj, CallsA E 32 [.map H.length 2] (H ++ [o0, o1, o2, o3, o4, o5, o6, o7, o8, o9, o10, o11, o12]) (fun e H' => H' = H ++ [o0, o1, o2, o3, o4, o5, o6, o7, o8, o9, o10, o11, o12, .cells [.map H.length 2]] ∧ e = .ret (.func 64 [.ptr H.length 13 0])) := fun o0 o1 o2 o3 o4 o5 o6 o7 o8 o9 o10 o11 o12 =>
              CallsA.reR (keys_A _ _ _) (Sub.func ⟨Sub.ptr (by simp), trivial⟩) (by simp)
            have hS2 : ∀ o0 o1 o3 o4 : AObj, CallsA E 31 [.func 64 [.ptr H.length 13 0]] (H ++ [o0, o1, .map es fs.length, o3, o4, o5, o6, o7, o8, o9, o10, o11, o12, .cells [.map H.length 2]]) (Is (H ++ [o0, o1, .map es fs.length, o3, o4, o5, o6, o7, o8, o9, o10, o11, o12, .cells [.map H.length 2]]) (.sl .no 1 (strs (sortB ((names fs).filter fun k => !(fnames m.fs).contains k))))) := fun o0 o1 o3 o4 => by
              have h9 := sorted_A H.length 13 H.length 2 es fs.length (H ++ [o0, o1, .map es fs.length, o3, o4, o5, o6, o7, o8, o9, o10, o11, o12, .cells [.map H.length 2]]) (app_get rfl rfl) (app_get rfl rfl) (fun e he => entries_keysB g2 e (q3.subset he)) (by rw [q2]; exact g3.filter _) ⟨(q3.map _).nodup hst.1, fun e he => hst.2 e (q3.subset he)⟩ (by have := q3.length_le; rw [entries_len] at this; omega)
              rw [q2] at h9
              exact h9
            repeat' first
              | refine WpA.seq ?_
              | refine WpA.region ?_
              | refine WpOps.op _ rfl rfl rfl rfl rfl ?_
              | refine WpOps.store rfl rfl rfl rfl rfl rfl rfl rfl rfl rfl ?_
              | (refine WpOps.call rfl rfl rfl rfl rfl (by exact hS2 _ _ _ _) ?_; rintro _ _ ⟨rfl, rfl⟩)
              | (refine WpOps.call rfl rfl rfl rfl rfl (by exact hK2 _ _ _ _ _ _ _ _ _ _ _ _ _) ?_; rintro _ _ ⟨rfl, rfl⟩)
              | refine WpA.block ?_
              | refine WpA.exit ?_
              | refine WpOps.nil ?_
              | refine WpA.ret ?_
              | refine WpA.skip ?_
              | refine WpA.cond _ rfl (fun h => ?_) (fun h => ?_)
            · simp at h
            · exact retK.sub (.inr rfl) rfl (TrOk.refl H) (L := _) rfl rfl (Sub.tup (vs := [Rep.av ⟨M, W, sortB ((names fs).filter fun k => !(fnames m.fs).contains k)⟩, .int .i64 0]) ⟨Sub.agg (vs := [.sl .no 1 (strs M), .sl .no 1 (strs W), .sl .no 1 (strs (sortB ((names fs).filter fun k => !(fnames m.fs).contains k)))]) ⟨Sub.untag, Sub.untag, Sub.refl _, trivial⟩, Sub.refl _, trivial⟩) (rep_bd _ _ _) ⟨rfl, rfl⟩
    · have hN0 : ∀ H, CallsA E 30 [.sl .no 2 (nrows fs)] H (Is H (.tup [.nilm, .int .i64 (byNameE fs)])) := fun H => (hN H).mono fun e H' h => by rw [byNameR, if_neg he] at h; exact h
      repeat' first
        | refine WpA.seq ?_
        | refine WpA.region ?_
        | refine WpOps.op _ rfl rfl rfl rfl rfl ?_
        | refine WpOps.box _ rfl rfl rfl rfl rfl ?_
        | refine WpOps.alloc _ rfl rfl rfl rfl rfl rfl ?_
        | refine WpOps.store rfl rfl rfl rfl rfl rfl rfl rfl rfl rfl ?_
        | refine WpOps.build _ rfl rfl rfl rfl rfl ?_
        | (refine WpOps.call rfl rfl rfl rfl rfl (by exact hC _) ?_; rintro _ _ ⟨rfl, rfl⟩)
        | (refine WpOps.call rfl rfl rfl rfl rfl (by exact hN0 _) ?_; rintro _ _ ⟨rfl, rfl⟩)
        | refine WpOps.nil ?_
        | refine WpA.ret ?_
        | refine WpA.skip ?_
        | refine WpA.condF rfl ?_
        | refine WpA.cond _ rfl (fun h => ?_) (fun h => ?_)
      · exact hfin (byNameE fs) hmk he rfl rfl rfl
      all_goals (exact absurd (by simpa using h) he)
  · have hmk : matchE m fs = check m := by rw [matchE, if_neg hc]
    repeat' first
      | refine WpA.seq ?_
      | refine WpA.region ?_
      | refine WpOps.op _ rfl rfl rfl rfl rfl ?_
      | refine WpOps.box _ rfl rfl rfl rfl rfl ?_
      | refine WpOps.alloc _ rfl rfl rfl rfl rfl rfl ?_
      | refine WpOps.store rfl rfl rfl rfl rfl rfl rfl rfl rfl rfl ?_
      | refine WpOps.build _ rfl rfl rfl rfl rfl ?_
      | (refine WpOps.call rfl rfl rfl rfl rfl (by exact hC _) ?_; rintro _ _ ⟨rfl, rfl⟩)
      | refine WpOps.nil ?_
      | refine WpA.ret ?_
      | refine WpA.skip ?_
      | refine WpA.cond _ rfl (fun h => ?_) (fun h => ?_)
    · exact hfin (check m) hmk hc rfl rfl rfl
    all_goals (exact absurd (by simpa using h) hc)
end Go.Gp.Tryd

/- The reference's octets: bytes, lengths, numbers. -/
namespace Go.Gp.Tryd
open Go.Proofs
set_option linter.unusedVariables false
set_option linter.unusedSimpArgs false
set_option maxHeartbeats 4000000
set_option maxRecDepth 100000

theorem bytes_get {x : List UInt8} {i : Nat} (h : i < x.length) : (x.map byteRow)[((i : Nat) : Int).toNat]? = some (byteRow x[i]) := by
  rw [Int.toNat_natCast, List.getElem?_map, List.getElem?_eq_getElem h]; rfl

theorem sameBytes_A (x y : List UInt8) (tg tg' : Tag) (H : List AObj) (hx : x.length ≤ 1125899906842624) :
    CallsA E 24 [.sl tg 1 (x.map byteRow), .sl tg' 1 (y.map byteRow)] H (Is H (.bool (x == y))) := by
  have hlx : (x.map byteRow).length = x.length := List.length_map _
  have hly : (y.map byteRow).length = y.length := List.length_map _
  refine .enter Tryd.func24 rfl rfl rfl 26 Tryd.ntmps24 (Nat.le_of_ble_eq_true rfl) ?_
  repeat' first
    | refine WpA.seq ?_
    | refine WpA.region ?_
    | refine WpOps.op _ rfl rfl rfl rfl rfl ?_
    | refine WpA.block ?_
    | refine WpOps.nil ?_
    | refine WpA.ret ?_
    | refine WpA.skip ?_
    | refine WpA.cond _ rfl (fun h => ?_) (fun h => ?_)
  · refine retK.ok rfl rfl (congrArg AV.bool ?_) .bool
    simp only [hlx, hly, bne_iff_ne, ne_eq] at h
    symm
    rw [beq_eq_false_iff_ne]
    intro e; subst e; exact h rfl
  · have hl : x.length = y.length := by simp only [hlx, hly, bne_eq_false_iff_eq] at h; omega
    clear h
    refine WpA.loopFor x.length (fun i => [(0, .sl tg 1 (x.map byteRow)), (1, .sl tg' 1 (y.map byteRow)), (5, .int .i64 (i : Nat))]) (fun _ => H ++ []) (fun i => x.take i = y.take i) rfl ⟨rfl, rfl, rfl, trivial⟩ rfl (fun i hi hok => ?_) (fun hok => ?_)
    · repeat' first
        | refine WpA.seq ?_
        | refine WpA.region ?_
        | refine WpOps.op _ rfl rfl rfl rfl rfl ?_
        | (refine LexA.elem (byteRow x[i]) rfl rfl rfl rfl rfl rfl rfl rfl rfl (Int.natCast_nonneg i) (bytes_get hi) ?_)
        | (refine LexA.elem (byteRow (y[i]'(by omega))) rfl rfl rfl rfl rfl rfl rfl rfl rfl (Int.natCast_nonneg i) (bytes_get (by omega)) ?_)
        | refine WpA.block ?_
        | refine WpA.exit ?_
        | refine WpOps.nil ?_
        | refine WpA.ret ?_
        | refine WpA.skip ?_
        | refine WpA.cond _ rfl (fun h => ?_) (fun h => ?_)
        | refine WpA.draw (by kernel_rfl) ?_
        | refine LexA.op _ rfl rfl rfl rfl rfl ?_
        | refine LexA.nil ?_
      · refine retK.ok rfl rfl (congrArg AV.bool ?_) .bool
        rw [u8_bne, Bool.not_eq_true'] at h
        symm
        rw [beq_eq_false_iff_ne]
        intro e; subst e
        simp at h
      · rw [u8_bne, Bool.not_eq_false'] at h
        have he : x[i] = y[i]'(by omega) := by simpa using h
        refine ⟨?_, ⟨rfl, rfl, congrArg (AV.int .i64) (wrap64 (by omega) (by omega)), trivial⟩, rfl⟩
        rw [List.take_succ_eq_append_getElem hi, List.take_succ_eq_append_getElem (by omega), hok, he]
      · simp only [hlx, decide_eq_false_iff_not] at *
        omega
    · repeat' first
        | refine WpA.seq ?_
        | refine WpA.region ?_
        | refine WpOps.op _ rfl rfl rfl rfl rfl ?_
        | refine WpA.block ?_
        | refine WpA.exit ?_
        | refine WpOps.nil ?_
        | refine WpA.ret ?_
        | refine WpA.skip ?_
        | refine WpA.cond _ rfl (fun h => ?_) (fun h => ?_)
        | refine WpA.draw (by kernel_rfl) ?_
        | refine LexA.op _ rfl rfl rfl rfl rfl ?_
      · simp only [hlx, decide_eq_true_eq] at *
        omega
      · refine retK.ok rfl rfl (congrArg AV.bool ?_) .bool
        rw [List.take_length, hl, List.take_length] at hok
        rw [hok]; simp
end Go.Gp.Tryd











/- The reference's octets: take, Decode. -/
namespace Go.Gp.Tryd
open Go.Proofs
set_option linter.unusedVariables false
set_option linter.unusedSimpArgs false
set_option maxHeartbeats 4000000
set_option maxRecDepth 100000

/-- No tag is nought. -/
def Oct.clean : Oct → Bool
  | .mk t _ is => t != 0 && (is.attach.map fun x => x.1.clean).all id
termination_by o => SizeOf.sizeOf o
decreasing_by have := List.sizeOf_lt_of_mem x.2; simp only [Oct.mk.sizeOf_spec]; omega
/-- What the reference takes. -/
def tk (k : Nat) (b : List UInt8) : Option (Oct × List UInt8) := match parse k b with
  | some (o, r) => if o.clean then some (o, r) else none
  | none => none
end Go.Gp.Tryd















/- The manifest's checks: the law's own function. -/
namespace Go.Gp.Tryd
open Go.Proofs
set_option linter.unusedVariables false
set_option linter.unusedSimpArgs false
set_option maxHeartbeats 4000000

theorem eqAL_refl : ∀ (l : List AV), (∀ a ∈ l, ∃ v, a = .int .u8 v) → eqAL l l = true
  | [], _ => rfl
  | a :: l, h => by
    obtain ⟨v, rfl⟩ := h _ List.mem_cons_self
    simp only [eqAL, beq1, BEq.rfl, Bool.true_and]
    exact eqAL_refl l fun b hb => h b (List.mem_cons_of_mem _ hb)

theorem feq_refl (f : File) : feq f f = true := by
  unfold feq heq
  rw [eqAL_refl _ (hash_int f)]
  simp
theorem eqFs_refl : ∀ fs, eqFs fs fs = true
  | [] => rfl
  | f :: fs => by rw [eqFs, feq_refl, eqFs_refl fs]; rfl
theorem same_refl (m : Man) : same m m = true := by
  unfold same weq
  rw [eqFs_refl]
  simp

end Go.Gp.Tryd

/- The laws of manifests: their own small functions. -/
namespace Go.Gp.Tryd
open Go.Proofs
set_option linter.unusedVariables false
set_option linter.unusedSimpArgs false
set_option maxHeartbeats 4000000
set_option maxRecDepth 100000

theorem strs_get {l : List (List UInt8)} {i : Nat} (h : i < l.length) : (strs l)[((i : Nat) : Int).toNat]? = some [.str l[i]] := by
  rw [Int.toNat_natCast, strs, List.getElem?_map, List.getElem?_eq_getElem h]; rfl
theorem sameNames_A (x y : List (List UInt8)) (tg tg' : Tag) (H : List AObj) (hx : x.length ≤ 1125899906842624) :
    CallsA E 44 [.sl tg 1 (strs x), .sl tg' 1 (strs y)] H (Is H (.bool (x == y))) := by
  have hlx := strs_len x
  have hly := strs_len y
  refine .enter Tryd.func44 rfl rfl rfl 26 Tryd.ntmps44 (Nat.le_of_ble_eq_true rfl) ?_
  repeat' first
    | refine WpA.seq ?_
    | refine WpA.region ?_
    | refine WpOps.op _ rfl rfl rfl rfl rfl ?_
    | refine WpA.block ?_
    | refine WpOps.nil ?_
    | refine WpA.ret ?_
    | refine WpA.skip ?_
    | refine WpA.cond _ rfl (fun h => ?_) (fun h => ?_)
  · refine retK.ok rfl rfl (congrArg AV.bool ?_) .bool
    simp only [hlx, hly, bne_iff_ne, ne_eq] at h
    symm
    rw [beq_eq_false_iff_ne]
    intro e; subst e; exact h rfl
  · have hl : x.length = y.length := by simp only [hlx, hly, bne_eq_false_iff_eq] at h; omega
    clear h
    refine WpA.loopFor x.length (fun i => [(0, .sl tg 1 (strs x)), (1, .sl tg' 1 (strs y)), (5, .int .i64 (i : Nat))]) (fun _ => H ++ []) (fun i => x.take i = y.take i) rfl ⟨rfl, rfl, rfl, trivial⟩ rfl (fun i hi hok => ?_) (fun hok => ?_)
    · repeat' first
        | refine WpA.seq ?_
        | refine WpA.region ?_
        | refine WpOps.op _ rfl rfl rfl rfl rfl ?_
        | (refine LexA.elem [.str x[i]] rfl rfl rfl rfl rfl rfl rfl rfl rfl (Int.natCast_nonneg i) (strs_get hi) ?_)
        | (refine LexA.elem [.str (y[i]'(by omega))] rfl rfl rfl rfl rfl rfl rfl rfl rfl (Int.natCast_nonneg i) (strs_get (by omega)) ?_)
        | refine WpA.block ?_
        | refine WpA.exit ?_
        | refine WpOps.nil ?_
        | refine WpA.ret ?_
        | refine WpA.skip ?_
        | refine WpA.cond _ rfl (fun h => ?_) (fun h => ?_)
        | refine WpA.draw (by kernel_rfl) ?_
        | refine LexA.op _ rfl rfl rfl rfl rfl ?_
        | refine LexA.nil ?_
      · refine retK.ok rfl rfl (congrArg AV.bool ?_) .bool
        rw [Bool.not_eq_true'] at h
        symm
        rw [beq_eq_false_iff_ne]
        intro e; subst e
        simp at h
      · rw [Bool.not_eq_false'] at h
        have he : x[i] = y[i]'(by omega) := by simpa using h
        refine ⟨?_, ⟨rfl, rfl, congrArg (AV.int .i64) (wrap64 (by omega) (by omega)), trivial⟩, rfl⟩
        rw [List.take_succ_eq_append_getElem hi, List.take_succ_eq_append_getElem (by omega), hok, he]
      · simp only [hlx, decide_eq_false_iff_not] at *
        omega
    · repeat' first
        | refine WpA.seq ?_
        | refine WpA.region ?_
        | refine WpOps.op _ rfl rfl rfl rfl rfl ?_
        | refine WpA.block ?_
        | refine WpA.exit ?_
        | refine WpOps.nil ?_
        | refine WpA.ret ?_
        | refine WpA.skip ?_
        | refine WpA.cond _ rfl (fun h => ?_) (fun h => ?_)
        | refine WpA.draw (by kernel_rfl) ?_
        | refine LexA.op _ rfl rfl rfl rfl rfl ?_
      · simp only [hlx, decide_eq_true_eq] at *
        omega
      · refine retK.ok rfl rfl (congrArg AV.bool ?_) .bool
        rw [List.take_length, hl, List.take_length] at hok
        rw [hok]; simp

def sameRep (r s : Rep) : Bool := r.miss == s.miss && (r.wrong == s.wrong && r.extra == s.extra)
theorem sameReport_A (r s : Rep) (H : List AObj) (h1 : r.miss.length ≤ 1125899906842624) (h2 : r.wrong.length ≤ 1125899906842624) (h3 : r.extra.length ≤ 1125899906842624) :
    CallsA E 18 [r.av, s.av] H (Is H (.bool (sameRep r s))) := by
  have e1 := fun H => sameNames_A r.miss s.miss .no .no H h1
  have e2 := fun H => sameNames_A r.wrong s.wrong .no .no H h2
  have e3 := fun H => sameNames_A r.extra s.extra .no .no H h3
  refine .enter Tryd.func18 rfl rfl rfl 24 Tryd.ntmps18 (Nat.le_of_ble_eq_true rfl) ?_
  cases b1 : r.miss == s.miss <;> cases b2 : r.wrong == s.wrong <;> rw [b1] at e1 <;> rw [b2] at e2
  · repeat' first
      | refine WpA.seq ?_
      | refine WpA.region ?_
      | refine WpOps.op _ rfl rfl rfl rfl rfl ?_
      | refine WpOps.box _ rfl rfl rfl rfl rfl ?_
      | refine WpOps.skip rfl rfl rfl ?_
      | (refine WpOps.call rfl rfl rfl rfl rfl (by exact e1 _) ?_; rintro _ _ ⟨rfl, rfl⟩)
      | refine WpOps.nil ?_
      | refine WpA.ret ?_
    exact retK.ok rfl rfl (congrArg AV.bool (by rw [sameRep, b1]; rfl)) .bool
  · repeat' first
      | refine WpA.seq ?_
      | refine WpA.region ?_
      | refine WpOps.op _ rfl rfl rfl rfl rfl ?_
      | refine WpOps.box _ rfl rfl rfl rfl rfl ?_
      | refine WpOps.skip rfl rfl rfl ?_
      | (refine WpOps.call rfl rfl rfl rfl rfl (by exact e1 _) ?_; rintro _ _ ⟨rfl, rfl⟩)
      | refine WpOps.nil ?_
      | refine WpA.ret ?_
    exact retK.ok rfl rfl (congrArg AV.bool (by rw [sameRep, b1]; rfl)) .bool
  · repeat' first
      | refine WpA.seq ?_
      | refine WpA.region ?_
      | refine WpOps.op _ rfl rfl rfl rfl rfl ?_
      | refine WpOps.box _ rfl rfl rfl rfl rfl ?_
      | refine WpOps.skip rfl rfl rfl ?_
      | (refine WpOps.call rfl rfl rfl rfl rfl (by exact e1 _) ?_; rintro _ _ ⟨rfl, rfl⟩)
      | (refine WpOps.call rfl rfl rfl rfl rfl (by exact e2 _) ?_; rintro _ _ ⟨rfl, rfl⟩)
      | refine WpOps.nil ?_
      | refine WpA.ret ?_
    exact retK.ok rfl rfl (congrArg AV.bool (by rw [sameRep, b1, b2]; rfl)) .bool
  · repeat' first
      | refine WpA.seq ?_
      | refine WpA.region ?_
      | refine WpOps.op _ rfl rfl rfl rfl rfl ?_
      | refine WpOps.box _ rfl rfl rfl rfl rfl ?_
      | (refine WpOps.call rfl rfl rfl rfl rfl (by exact e1 _) ?_; rintro _ _ ⟨rfl, rfl⟩)
      | (refine WpOps.call rfl rfl rfl rfl rfl (by exact e2 _) ?_; rintro _ _ ⟨rfl, rfl⟩)
      | (refine WpOps.call rfl rfl rfl rfl rfl (by exact e3 _) ?_; rintro _ _ ⟨rfl, rfl⟩)
      | refine WpOps.nil ?_
      | refine WpA.ret ?_
    exact retK.ok rfl rfl (congrArg AV.bool (by rw [sameRep, b1, b2]; rfl)) .bool

def greatF1 (f : NFile) : Bool := decide (200 < f.name.length) || decide (300 < f.bytes.length)
def greatFs (fs : List NFile) : Bool := (decide (12 < fs.length) && decide (fs.length ≤ 200)) || (decide (210 < fs.length) || fs.any greatF1)
theorem greatFs_false {fs : List NFile} (h : greatFs fs = false) : (fs.length ≤ 12 ∨ 200 < fs.length ∧ fs.length ≤ 210) ∧ ∀ f ∈ fs, f.name.length ≤ 200 ∧ f.bytes.length ≤ 300 := by
  simp only [greatFs, Bool.or_eq_false_iff, Bool.and_eq_false_iff, decide_eq_false_iff_not, List.any_eq_false] at h
  refine ⟨by omega, fun f hf => ?_⟩
  have := h.2.2 f hf
  simp only [greatF1, Bool.or_eq_true, decide_eq_true_eq] at this
  omega
theorem greatFiles_A (fs : List NFile) (H : List AObj) (hl : fs.length ≤ 1000000000000000) : CallsA E 10 [.sl .no 2 (nrows fs)] H (Is H (.bool (greatFs fs))) := by
  have hlen := nrows_len fs
  refine .enter Tryd.func10 rfl rfl rfl 39 Tryd.ntmps10 (Nat.le_of_ble_eq_true rfl) ?_
  by_cases hbig : (12 < fs.length ∧ fs.length ≤ 200) ∨ 210 < fs.length
  · have hg : greatFs fs = true := by
      simp only [greatFs, Bool.or_eq_true, Bool.and_eq_true, decide_eq_true_eq]
      rcases hbig with h | h
      · exact .inl h
      · exact .inr (.inl h)
    rw [hg]
    repeat' first
      | refine WpA.seq ?_
      | refine WpA.region ?_
      | refine WpOps.op _ rfl rfl rfl rfl rfl ?_
      | refine WpOps.skip rfl rfl rfl ?_
      | refine WpOps.gsplit _ rfl rfl rfl (fun h => ?_) (fun h => ?_)
      | refine WpA.block ?_
      | refine WpOps.nil ?_
      | refine WpA.ret ?_
      | refine WpA.skip ?_
      | refine WpA.condT rfl ?_
      | refine WpA.cond _ rfl (fun h => ?_) (fun h => ?_)
    all_goals first
      | exact retK.ok rfl rfl rfl .bool
      | (exfalso; simp only [hlen, cond_true, cond_false, decide_eq_true_eq, decide_eq_false_iff_not] at *; omega)
  · have hg : greatFs fs = fs.any greatF1 := by
      have h1 : (decide (12 < fs.length) && decide (fs.length ≤ 200)) = false := by
        cases h : decide (12 < fs.length) <;> simp at h ⊢
        omega
      have h2 : decide (210 < fs.length) = false := by simp; omega
      rw [greatFs, h1, h2]; rfl
    rw [hg]
    repeat' first
      | refine WpA.seq ?_
      | refine WpA.region ?_
      | refine WpOps.op _ rfl rfl rfl rfl rfl ?_
      | refine WpOps.skip rfl rfl rfl ?_
      | refine WpOps.gsplit _ rfl rfl rfl (fun h => ?_) (fun h => ?_)
      | refine WpA.block ?_
      | refine WpOps.nil ?_
      | refine WpA.ret ?_
      | refine WpA.skip ?_
      | refine WpA.condT rfl ?_
      | refine WpA.cond _ rfl (fun h => ?_) (fun h => ?_)
    all_goals first
      | (exfalso; simp only [hlen, cond_true, cond_false, decide_eq_true_eq, decide_eq_false_iff_not] at *; omega)
      | skip
    all_goals
      refine WpA.loopFor fs.length (fun i => [(0, .sl .no 2 (nrows fs)), (3, .int .i64 (i : Nat))]) (fun _ => H ++ []) (fun i => (fs.take i).any greatF1 = false) rfl ⟨rfl, rfl, trivial⟩ rfl (fun i hi hok => ?_) (fun hok => ?_)
      · have hge := nrows_get hi
        have hst : (fs.take (i + 1)).any greatF1 = greatF1 fs[i] := by rw [List.take_succ_eq_append_getElem hi, List.any_append, hok]; simp
        have hlb : (fs[i].bytes.map byteRow).length = fs[i].bytes.length := List.length_map _
        have hany : greatF1 fs[i] = true → fs.any greatF1 = true := fun h => List.any_eq_true.2 ⟨_, List.getElem_mem hi, h⟩
        repeat' first
          | (refine WpOps.elem _ rfl rfl rfl rfl rfl rfl rfl rfl rfl (Int.natCast_nonneg i) hge ?_)
          | refine WpA.seq ?_
          | refine WpA.region ?_
          | refine WpOps.op _ rfl rfl rfl rfl rfl ?_
          | refine WpOps.skip rfl rfl rfl ?_
          | refine WpOps.gsplit _ rfl rfl rfl (fun h => ?_) (fun h => ?_)
          | refine WpA.block ?_
          | refine WpA.exit ?_
          | refine WpOps.nil ?_
          | refine WpA.ret ?_
          | refine WpA.skip ?_
          | refine WpA.condT rfl ?_
          | refine WpA.cond _ rfl (fun h => ?_) (fun h => ?_)
        all_goals first
          | (exfalso; simp only [hlen, cond_true, cond_false, decide_eq_true_eq, decide_eq_false_iff_not] at *; omega)
          | (refine retK.ok rfl rfl (congrArg AV.bool ?_) .bool
             symm
             apply hany
             simp only [greatF1, Bool.or_eq_true, decide_eq_true_eq]
             simp only [hlb, cond_true, cond_false, decide_eq_true_eq, decide_eq_false_iff_not] at *
             omega)
          | (refine ⟨?_, ⟨rfl, congrArg (AV.int .i64) (wrap64 (by omega) (by omega)), trivial⟩, rfl⟩
             rw [hst]
             simp only [greatF1, Bool.or_eq_false_iff, decide_eq_false_iff_not]
             simp only [hlb, cond_true, cond_false, decide_eq_true_eq, decide_eq_false_iff_not] at *
             omega)
      · repeat' first
          | refine WpA.seq ?_
          | refine WpA.region ?_
          | refine WpOps.op _ rfl rfl rfl rfl rfl ?_
          | refine WpA.block ?_
          | refine WpA.exit ?_
          | refine WpOps.nil ?_
          | refine WpA.ret ?_
          | refine WpA.skip ?_
          | refine WpA.cond _ rfl (fun h => ?_) (fun h => ?_)
        · exfalso
          simp only [hlen, cond_true, cond_false, decide_eq_true_eq] at *
          omega
        · rw [List.take_length] at hok
          exact retK.ok rfl rfl (congrArg AV.bool hok.symm) .bool
end Go.Gp.Tryd

/- Manifests that are made of files: plain facts. -/
namespace Go.Gp.Tryd
open Go.Proofs
set_option linter.unusedVariables false
set_option linter.unusedSimpArgs false
set_option maxHeartbeats 4000000

theorem lt_iff : ∀ (x y : List UInt8), lt x y = true ↔ x < y
  | [], [] => by constructor <;> intro h <;> cases h
  | [], _ :: _ => ⟨fun _ => List.nil_lt_cons _ _, fun _ => rfl⟩
  | _ :: _, [] => by constructor <;> intro h <;> cases h
  | a :: x, b :: y => by
    have ih := lt_iff x y
    show (decide (a < b) || (a == b && lt x y)) = true ↔ _
    rw [List.cons_lt_cons_iff, ← ih]
    simp
theorem makeFs_len (fs : List NFile) : (makeFs fs).length = fs.length := by
  rw [makeFs, List.length_map, (sortB_perm _).length_eq, names, List.length_map]
theorem find_nodup : ∀ {fs : List NFile} {f : NFile}, f ∈ fs → (names fs).Nodup → fs.find? (fun g => g.name == f.name) = some f
  | [], _, h, _ => by cases h
  | g :: fs, f, h, hn => by
    rw [List.find?_cons]
    have hn' : g.name ∉ names fs ∧ (names fs).Nodup := List.nodup_cons.1 hn
    rcases List.mem_cons.1 h with rfl | h
    · simp
    · have hne : g.name ≠ f.name := fun e => hn'.1 (e ▸ List.mem_map.2 ⟨f, h, rfl⟩)
      have : (g.name == f.name) = false := by simpa using hne
      rw [this]
      exact find_nodup h hn'.2
theorem bytesAt_of {fs : List NFile} {f : NFile} (h : f ∈ fs) (hn : (names fs).Nodup) : bytesAt fs f.name = f.bytes := by
  rw [bytesAt, find_nodup h hn]; rfl
theorem hashOf_of {fs : List NFile} {f : NFile} (h : f ∈ fs) (hn : (names fs).Nodup) : hashOf fs f.name = ⟨f.name, sha f.bytes⟩ := by
  rw [hashOf, bytesAt_of h hn]
theorem mem_names {fs : List NFile} {f : NFile} (h : f ∈ fs) : f.name ∈ names fs := List.mem_map.2 ⟨f, h, rfl⟩

/-- What Match says of a manifest that was made. -/
def inB (gs : List NFile) (n : List UInt8) : Bool := decide (n ∈ names gs)
end Go.Gp.Tryd

/- Manifests and files: what Exact and Changes ask, in plain terms. -/
namespace Go.Gp.Tryd
open Go.Proofs
set_option linter.unusedVariables false
set_option linter.unusedSimpArgs false
set_option maxHeartbeats 4000000

theorem mem_names_iff {fs : List NFile} {n : List UInt8} : n ∈ names fs ↔ ∃ f ∈ fs, f.name = n := List.mem_map
end Go.Gp.Tryd

/- The reference of manifests: at, files. -/
namespace Go.Gp.Tryd
open Go.Proofs
set_option linter.unusedVariables false
set_option linter.unusedSimpArgs false
set_option maxHeartbeats 4000000
set_option maxRecDepth 100000

def atI (fs : List NFile) (y : List UInt8) : Int := match fs.findIdx? (fun f => f.name == y) with | some k => (k : Nat) | none => -1
theorem atI_some {fs : List NFile} {y : List UInt8} {k : Nat} (hk : k < fs.length) (h : fs[k].name = y) (hb : ∀ j (hj : j < k), (fs[j]'(by omega)).name ≠ y) : atI fs y = (k : Nat) := by
  have : fs.findIdx? (fun f => f.name == y) = some k := List.findIdx?_eq_some_iff_getElem.2 ⟨hk, by simpa using h, fun j hj => by simpa using hb j hj⟩
  rw [atI, this]
theorem atI_none {fs : List NFile} {y : List UInt8} (h : ∀ f ∈ fs, f.name ≠ y) : atI fs y = -1 := by
  have : fs.findIdx? (fun f => f.name == y) = none := List.findIdx?_eq_none_iff.2 fun f hf => by simpa using h f hf
  rw [atI, this]
theorem atI_cases (fs : List NFile) (y : List UInt8) : (y ∉ names fs ∧ atI fs y = -1) ∨ ∃ k, ∃ hk : k < fs.length, atI fs y = (k : Nat) ∧ fs[k].name = y ∧ ∀ j (hj : j < k), (fs[j]'(by omega)).name ≠ y := by
  unfold atI
  cases h : fs.findIdx? (fun f => f.name == y) with
  | none =>
    left
    refine ⟨fun hm => ?_, rfl⟩
    obtain ⟨f, hf, e⟩ := mem_names_iff.1 hm
    have := List.findIdx?_eq_none_iff.1 h f hf
    rw [e] at this; simp at this
  | some k =>
    right
    obtain ⟨hk, h1, h2⟩ := List.findIdx?_eq_some_iff_getElem.1 h
    exact ⟨k, hk, rfl, by simpa using h1, fun j hj => by simpa using h2 j hj⟩
theorem at_A (fs : List NFile) (y : List UInt8) (H : List AObj) (hl : fs.length ≤ 1000000000000000) : CallsA E 41 [.sl .no 2 (nrows fs), .str y] H (Is H (.int .i64 (atI fs y))) := by
  have hlen := nrows_len fs
  refine .enter Tryd.func41 rfl rfl rfl 20 Tryd.ntmps41 (Nat.le_of_ble_eq_true rfl) ?_
  repeat' first
    | refine WpA.seq ?_
    | refine WpA.region ?_
    | refine WpOps.op _ rfl rfl rfl rfl rfl ?_
    | refine WpA.block ?_
    | refine WpOps.nil ?_
  refine WpA.loopFor fs.length (fun i => [(0, .sl .no 2 (nrows fs)), (1, .str y), (5, .int .i64 (i : Nat))]) (fun _ => H ++ []) (fun i => ∀ j (hj : j < i) (h : j < fs.length), fs[j].name ≠ y) (fun j hj => by omega) ⟨rfl, rfl, rfl, trivial⟩ rfl (fun i hi hok => ?_) (fun hok => ?_)
  · have hge := nrows_get hi
    have hlt : decide (((i : Nat) : Int) < (((nrows fs).length : Nat) : Int)) = true := decide_eq_true (by rw [hlen]; omega)
    repeat' first
      | refine WpA.condT (congrArg AV.bool hlt) ?_
      | (refine WpOps.elem _ rfl rfl rfl rfl rfl rfl rfl rfl rfl (Int.natCast_nonneg i) hge ?_)
      | refine WpA.seq ?_
      | refine WpA.region ?_
      | refine WpOps.op _ rfl rfl rfl rfl rfl ?_
      | refine WpA.block ?_
      | refine WpOps.nil ?_
      | refine WpA.ret ?_
      | refine WpA.skip ?_
      | refine WpA.cond _ rfl (fun h => ?_) (fun h => ?_)
    · refine retK.ok rfl rfl (congrArg (AV.int .i64) ?_) .int
      exact (atI_some hi (by simpa using h) fun j hj => hok j hj (by omega)).symm
    · refine ⟨fun j hj h' => ?_, ⟨rfl, rfl, congrArg (AV.int .i64) (wrap64 (by omega) (by omega)), trivial⟩, rfl⟩
      rcases Nat.lt_or_ge j i with h1 | h1
      · exact hok j h1 h'
      · have : j = i := by omega
        subst this
        simpa using h
  · have hlt : decide (((fs.length : Nat) : Int) < (((nrows fs).length : Nat) : Int)) = false := decide_eq_false (by rw [hlen]; omega)
    repeat' first
      | refine WpA.condF (congrArg AV.bool hlt) ?_
      | refine WpA.seq ?_
      | refine WpA.region ?_
      | refine WpOps.op _ rfl rfl rfl rfl rfl ?_
      | refine WpA.exit ?_
      | refine WpOps.nil ?_
      | refine WpA.ret ?_
    refine retK.ok rfl rfl (congrArg (AV.int .i64) ?_) .int
    refine (atI_none fun f hf => ?_).symm
    obtain ⟨j, hj⟩ := List.getElem?_of_mem hf
    obtain ⟨h1, rfl⟩ := List.getElem?_eq_some_iff.1 hj
    exact hok j h1 h1

theorem files_A (fs : List NFile) (H : List AObj) (hl : fs.length ≤ 1000000000000000) : CallsA E 34 [.sl .no 2 (nrows fs)] H (Is H (.int .i64 (byNameE fs))) := by
  have hlen := nrows_len fs
  have hAt := fun y H => at_A fs y H hl
  refine .enter Tryd.func34 rfl rfl rfl 36 Tryd.ntmps34 (Nat.le_of_ble_eq_true rfl) ?_
  by_cases h200 : 200 < fs.length
  · have k1 : ¬ (decide ((((nrows fs).length : Nat) : Int) > 200) = false) := by simp; omega
    repeat' first
      | exact absurd (by assumption) k1
      | refine WpA.seq ?_
      | refine WpA.region ?_
      | refine WpOps.op _ rfl rfl rfl rfl rfl ?_
      | refine WpOps.nil ?_
      | refine WpA.ret ?_
      | refine WpA.cond _ rfl (fun h => ?_) (fun h => ?_)
    exact retK.ok rfl rfl (congrArg (AV.int .i64) (by rw [byNameE, if_pos h200])) .int
  · have k1 : ¬ (decide ((((nrows fs).length : Nat) : Int) > 200) = true) := by simp; omega
    repeat' first
      | exact absurd (by assumption) k1
      | refine WpA.seq ?_
      | refine WpA.region ?_
      | refine WpOps.op _ rfl rfl rfl rfl rfl ?_
      | refine WpA.block ?_
      | refine WpOps.nil ?_
      | refine WpA.skip ?_
      | refine WpA.cond _ rfl (fun h => ?_) (fun h => ?_)
    refine WpA.loopFor fs.length (fun i => [(0, .sl .no 2 (nrows fs)), (3, .int .i64 (i : Nat))]) (fun _ => H ++ []) (fun i => badName (fs.take i) = false) rfl ⟨rfl, rfl, trivial⟩ rfl (fun i hi hok => ?_) (fun hok => ?_)
    · have hge := nrows_get hi
      have hlt : decide (((i : Nat) : Int) < (((nrows fs).length : Nat) : Int)) = true := decide_eq_true (by rw [hlen]; omega)
      have hN := fun H => refName_A fs[i].name H
      have hbd1 : badName (fs.take (i + 1)) = (badName (fs.take i) || !name fs[i].name) := by
        rw [List.take_succ_eq_append_getElem hi, badName, badName, List.any_append]; simp
      repeat' first
        | refine WpA.condT (congrArg AV.bool hlt) ?_
        | (refine WpOps.elem _ rfl rfl rfl rfl rfl rfl rfl rfl rfl (Int.natCast_nonneg i) hge ?_)
        | refine WpA.seq ?_
        | refine WpA.region ?_
        | refine WpOps.op _ rfl rfl rfl rfl rfl ?_
        | (refine WpOps.call rfl rfl rfl rfl rfl (by exact hN _) ?_; rintro _ _ ⟨rfl, rfl⟩)
        | refine WpA.block ?_
        | refine WpOps.nil ?_
        | refine WpA.ret ?_
        | refine WpA.skip ?_
        | refine WpA.cond _ rfl (fun h => ?_) (fun h => ?_)
      · refine retK.ok rfl rfl (congrArg (AV.int .i64) ?_) .int
        have hb : badName fs = true := List.any_eq_true.2 ⟨fs[i], List.getElem_mem hi, h⟩
        rw [byNameE, if_neg h200, if_pos hb]
      · refine ⟨?_, ⟨rfl, congrArg (AV.int .i64) (wrap64 (by omega) (by omega)), trivial⟩, rfl⟩
        rw [hbd1, hok, h]; rfl
    · rw [List.take_length] at hok
      have hlt : decide (((fs.length : Nat) : Int) < (((nrows fs).length : Nat) : Int)) = false := decide_eq_false (by rw [hlen]; omega)
      repeat' first
        | refine WpA.condF (congrArg AV.bool hlt) ?_
        | refine WpA.seq ?_
        | refine WpA.region ?_
        | refine WpOps.op _ rfl rfl rfl rfl rfl ?_
        | refine WpA.block ?_
        | refine WpA.exit ?_
        | refine WpOps.nil ?_
      refine WpA.loopFor fs.length (fun i => [(0, .sl .no 2 (nrows fs)), (4, .int .i64 (i : Nat))]) (fun _ => H ++ []) (fun i => ∀ j (hj : j < i) (h : j < fs.length), atI fs fs[j].name = (j : Nat)) (fun j hj => by omega) ⟨rfl, rfl, trivial⟩ rfl (fun i hi hok2 => ?_) (fun hok2 => ?_)
      · have hge := nrows_get hi
        have hlt : decide (((i : Nat) : Int) < (((nrows fs).length : Nat) : Int)) = true := decide_eq_true (by rw [hlen]; omega)
        have hAi := fun H => hAt fs[i].name H
        obtain ⟨p, hp⟩ : ∃ p, atI fs fs[i].name = p := ⟨_, rfl⟩
        rw [hp] at hAi
        repeat' first
          | refine WpA.condT (congrArg AV.bool hlt) ?_
          | (refine WpOps.elem _ rfl rfl rfl rfl rfl rfl rfl rfl rfl (Int.natCast_nonneg i) hge ?_)
          | refine WpA.seq ?_
          | refine WpA.region ?_
          | refine WpOps.op _ rfl rfl rfl rfl rfl ?_
          | (refine WpOps.call rfl rfl rfl rfl rfl (by exact hAi _) ?_; rintro _ _ ⟨rfl, rfl⟩)
          | refine WpA.block ?_
          | refine WpOps.nil ?_
          | refine WpA.ret ?_
          | refine WpA.skip ?_
          | refine WpA.cond _ rfl (fun h => ?_) (fun h => ?_)
        · refine retK.ok rfl rfl (congrArg (AV.int .i64) ?_) .int
          have hne : p ≠ (i : Nat) := by simpa using h
          rw [byNameE, if_neg h200, if_neg (by rw [hok]; decide), if_neg]
          intro hnd
          rcases atI_cases fs fs[i].name with ⟨h1, _⟩ | ⟨k, hk, h1, h2, h3⟩
          · exact h1 (mem_names (List.getElem_mem hi))
          · have hki : k ≠ i := fun e => hne (by rw [← hp, h1, e])
            have hn := List.pairwise_iff_getElem.1 hnd
            rcases Nat.lt_or_gt_of_ne hki with h4 | h4
            · refine hn k i (by rw [names, List.length_map]; exact hk) (by rw [names, List.length_map]; exact hi) h4 ?_
              simp only [names, List.getElem_map]; exact h2
            · exact h3 i h4 rfl
        · refine ⟨fun j hj h' => ?_, ⟨rfl, congrArg (AV.int .i64) (wrap64 (by omega) (by omega)), trivial⟩, rfl⟩
          rcases Nat.lt_or_ge j i with h1 | h1
          · exact hok2 j h1 h'
          · have : j = i := by omega
            subst this
            rw [hp]
            simpa using h
      · repeat' first
          | refine WpA.condF (congrArg AV.bool hlt) ?_
          | refine WpA.seq ?_
          | refine WpA.region ?_
          | refine WpOps.op _ rfl rfl rfl rfl rfl ?_
          | refine WpA.exit ?_
          | refine WpOps.nil ?_
          | refine WpA.ret ?_
        refine retK.ok rfl rfl (congrArg (AV.int .i64) ?_) .int
        have hnd : (names fs).Nodup := by
          refine List.pairwise_iff_getElem.2 fun a b ha hb hab e => ?_
          have ha' : a < fs.length := by rw [names, List.length_map] at ha; exact ha
          have hb' : b < fs.length := by rw [names, List.length_map] at hb; exact hb
          have e' : fs[a].name = fs[b].name := by simpa only [names, List.getElem_map] using e
          have h1 := hok2 a ha' ha'
          have h2 := hok2 b hb' hb'
          rw [e', h2] at h1
          omega
        rw [byNameE, if_neg h200, if_neg (by rw [hok]; decide), if_pos hnd]
end Go.Gp.Tryd
