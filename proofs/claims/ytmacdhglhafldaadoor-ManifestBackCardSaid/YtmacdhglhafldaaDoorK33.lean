/- Part of a proof: GdF4, GdF5 -/
import Derived.Test.YtmacdhglhafldaaDoorK17
import Derived.Test.YtmacdhglhafldaaDoorK32

/- The manifest: the files for which a function holds; what Match asks. -/
namespace Go.Gp.Tryd
open Go.Proofs
set_option linter.unusedVariables false
set_option linter.unusedSimpArgs false
set_option maxHeartbeats 4000000
set_option maxRecDepth 100000

theorem those_A (m : Man) (fv : AV) (hfv : cellsA fv = some [fv]) (H : List AObj) : CallsA E 36 [m.av .no, fv] H (fun e H' => H' = H ++ [.cells (m.cells .no), .cells [fv]] ∧ e = .ret (.func 70 [.ptr H.length 0 0, .ptr H.length 1 0])) := by
  have h1 : CallsA E 36 [m.av .no, fv] H (fun e H' => H' = H ++ [.cells (m.cells .no), .cells [fv]] ∧ e = .ret (.func 70 [.ptr H.length 0 0, .ptr H.length 1 0])) := by
    refine .enter Tryd.func36 rfl rfl rfl 6 Tryd.ntmps36 (Nat.le_of_ble_eq_true rfl) ?_
    repeat' first
      | refine WpOps.box [fv] rfl rfl rfl rfl hfv ?_
      | refine WpA.seq ?_
      | refine WpA.region ?_
      | refine WpOps.op _ rfl rfl rfl rfl rfl ?_
      | refine WpOps.box _ rfl rfl rfl rfl rfl ?_
      | refine WpOps.alloc _ rfl rfl rfl rfl rfl rfl ?_
      | refine WpOps.store rfl rfl rfl rfl rfl rfl rfl rfl rfl rfl ?_
      | refine WpOps.skip rfl rfl rfl ?_
      | refine WpOps.build _ rfl rfl rfl rfl rfl ?_
      | refine WpOps.sh _ rfl rfl rfl rfl rfl ?_
      | refine WpOps.gsplit _ rfl rfl rfl (fun h => ?_) (fun h => ?_)
      | refine WpA.block ?_
      | refine WpA.exit ?_
      | refine WpOps.nil ?_
      | refine WpA.ret ?_
      | refine WpA.skip ?_
      | refine WpA.condT rfl ?_
      | refine WpA.condF rfl ?_
      | refine WpA.cond _ rfl (fun h => ?_) (fun h => ?_)
      | refine WpA.draw (by kernel_rfl) ?_
      | refine LexA.op _ rfl rfl rfl rfl rfl ?_
      | refine LexA.skip rfl rfl rfl ?_
      | refine LexA.build _ rfl rfl rfl rfl rfl ?_
      | refine LexA.sh _ rfl rfl rfl rfl rfl ?_
      | refine LexA.gsplit _ rfl rfl rfl (fun h => ?_) (fun h => ?_)
      | refine LexA.nil ?_
    exact retK.all (.inr rfl) rfl rfl (Sub.refl _) ⟨rfl, rfl⟩
  exact h1

def nameIts (l : List File) : List (List AV) := l.map fun f => [.str f.name]
def thosePre (m : Man) (g : Nat) (caps : List AV) (p q q' : Nat) (pre : List AObj → Prop) (H : List AObj) : Prop := H[p + q]? = some (.cells (m.cells .no)) ∧ H[p + q']? = some (.cells [.func g caps]) ∧ pre H

theorem those1_A (m : Man) (hm : m.fs.length ≤ 1000000000) (g : Nat) (caps : List AV) (ok : File → Bool) (pre : List AObj → Prop) (hh : ∀ f ∈ m.fs, ∀ H X, pre H → CallsA E g ([.agg f.row] ++ caps) (H ++ X) (Is (H ++ X) (.bool (ok f)))) (p q q' : Nat) :
    IterQ E 70 [.ptr p q 0, .ptr p q' 0] (thosePre m g caps p q q' pre) false (ι := List AV) id (fun _ _ => True) (fun h => h <+: nameIts (m.fs.filter ok)) (fun its => its = nameIts (m.fs.filter ok)) := by
  intro yn yj σ Hf f okσ hy hpre _ s X hs
  obtain ⟨N, hN0⟩ : ∃ N, (Hf s ++ X).length = N := ⟨_, rfl⟩
  have hN : ∀ s', (Hf s' ++ X).length = N := fun s' => by rw [List.length_append, hy.len s' s, ← List.length_append]; exact hN0
  have hp0 := hpre s X
  have hrl := rows_length m.fs
  refine .enter Tryd.func70 rfl rfl rfl 24 Tryd.ntmps70 (Nat.le_of_ble_eq_true rfl) ?_
  let σs : Nat → σ := fun i => runIt f s (nameIts ((m.fs.take i).filter ok))
  have htk : ∀ i (hi : i < m.fs.length), nameIts ((m.fs.take (i + 1)).filter ok) = nameIts ((m.fs.take i).filter ok) ++ (if ok m.fs[i] then [[AV.str m.fs[i].name]] else []) := fun i hi => by
    rw [List.take_succ_eq_append_getElem hi, List.filter_append, nameIts, List.map_append]
    congr 1
    cases h : ok m.fs[i] <;> simp [h]
  have hpf : ∀ i (hi : i < m.fs.length), ok m.fs[i] = true → nameIts ((m.fs.take i).filter ok) ++ [[AV.str m.fs[i].name]] <+: nameIts (m.fs.filter ok) := fun i hi h => by
    have e1 := htk i hi
    rw [h, if_pos rfl] at e1
    rw [← e1]
    refine ⟨nameIts ((m.fs.drop (i + 1)).filter ok), ?_⟩
    rw [nameIts, nameIts, ← List.map_append, ← List.filter_append, List.take_append_drop]; rfl
  repeat' first
    | refine WpA.seq ?_
    | refine WpA.region ?_
    | refine WpOps.op _ rfl rfl rfl rfl rfl ?_
    | refine WpOps.box _ rfl rfl rfl rfl rfl ?_
    | refine WpOps.alloc _ rfl rfl rfl rfl rfl rfl ?_
    | refine WpOps.store rfl rfl rfl rfl rfl rfl rfl rfl rfl rfl ?_
    | refine WpOps.skip rfl rfl rfl ?_
    | refine WpOps.build _ rfl rfl rfl rfl rfl ?_
    | refine WpOps.sh _ rfl rfl rfl rfl rfl ?_
    | (refine WpOps.loadOut _ rfl rfl rfl rfl rfl hp0.1 rfl rfl rfl ?_)
    | refine WpOps.gsplit _ rfl rfl rfl (fun h => ?_) (fun h => ?_)
    | refine WpA.block ?_
    | refine WpA.exit ?_
    | refine WpOps.nil ?_
    | refine WpA.ret ?_
    | refine WpA.skip ?_
    | refine WpA.condT rfl ?_
    | refine WpA.condF rfl ?_
    | refine WpA.cond _ rfl (fun h => ?_) (fun h => ?_)
    | refine WpA.draw (by kernel_rfl) ?_
    | refine LexA.op _ rfl rfl rfl rfl rfl ?_
    | refine LexA.skip rfl rfl rfl ?_
    | refine LexA.build _ rfl rfl rfl rfl rfl ?_
    | refine LexA.sh _ rfl rfl rfl rfl rfl ?_
    | refine LexA.gsplit _ rfl rfl rfl (fun h => ?_) (fun h => ?_)
    | refine LexA.nil ?_
  refine WpA.knowBd 0 fun hyb => ?_
  have hyl : yn + yj < N := by
    cases hyb with
    | yld h => rw [List.append_nil, hN0] at h; exact h
  refine WpA.loopG m.fs.length (fun i => [(0, .yld yn yj), (2, .ptr p q' 0), (7, .sl .no 33 (rows m.fs)), (8, .int .i64 (m.fs.length : Nat)), (9, .int .i64 (i : Nat))]) (fun i => (Hf (σs i) ++ X)) (fun i => allIt f s (nameIts ((m.fs.take i).filter ok)) = true ∧ okσ (nameIts ((m.fs.take i).filter ok)) (σs i)) ⟨rfl, hs⟩ ⟨rfl, rfl, rfl, by rw [← hrl]; rfl, rfl, trivial⟩ (by rw [List.append_nil]; rfl)
    (fun i _ => by rw [hN, hN]) (fun i hi _ => hy.tr _ _ X) (fun i hi _ => ?_) (fun i hi hok => ?_) (fun hok => ?_) (fun _ => ⟨rfl, rfl, rfl, rfl, rfl, trivial⟩)
  · rw [hN]
    have h1 := get_lt hp0.2.1
    rw [hN] at h1
    exact ⟨.yld hyl, .ptr h1, rows_bd _ _, .int, .int, trivial⟩
  · obtain ⟨B, hB⟩ : ∃ B, B = Hf (σs i) ++ X := ⟨_, rfl⟩
    have hpi := hpre (σs i) X
    rw [← hB] at hpi ⊢
    have hg := rows_get hi
    have hcall := fun X => hh m.fs[i] (List.getElem_mem hi) B X hpi.2.2
    refine WpA.heap (H' := B ++ []) (List.append_nil _).symm ?_
    cases hf : ok m.fs[i] with
    | false =>
      rw [hf] at hcall
      have hnx : σs (i + 1) = σs i := by show runIt f s _ = runIt f s _; rw [htk i hi, hf]; simp
      repeat' first
        | (refine WpOps.elem _ rfl rfl rfl rfl rfl rfl rfl rfl rfl (Int.natCast_nonneg i) hg ?_)
        | refine WpA.seq ?_
        | refine WpA.region ?_
        | refine WpOps.op _ rfl rfl rfl rfl rfl ?_
        | refine WpOps.box _ rfl rfl rfl rfl rfl ?_
        | refine WpOps.alloc _ rfl rfl rfl rfl rfl rfl ?_
        | refine WpOps.store rfl rfl rfl rfl rfl rfl rfl rfl rfl rfl ?_
        | refine WpOps.skip rfl rfl rfl ?_
        | refine WpOps.build _ rfl rfl rfl rfl rfl ?_
        | refine WpOps.sh _ rfl rfl rfl rfl rfl ?_
        | (refine WpOps.loadOut _ rfl rfl rfl rfl rfl hpi.2.1 rfl rfl rfl ?_)
        | (refine WpOps.call rfl rfl rfl rfl rfl (by exact hcall _) ?_; rintro _ _ ⟨rfl, rfl⟩)
        | refine WpOps.gsplit _ rfl rfl rfl (fun h => ?_) (fun h => ?_)
        | refine WpA.block ?_
        | refine WpA.exit ?_
        | refine WpOps.nil ?_
        | refine WpA.ret ?_
        | refine WpA.skip ?_
        | refine WpA.condT rfl ?_
        | refine WpA.condF rfl ?_
        | refine WpA.cond _ rfl (fun h => ?_) (fun h => ?_)
        | refine WpA.draw (by kernel_rfl) ?_
        | refine LexA.op _ rfl rfl rfl rfl rfl ?_
        | refine LexA.skip rfl rfl rfl ?_
        | refine LexA.build _ rfl rfl rfl rfl rfl ?_
        | refine LexA.sh _ rfl rfl rfl rfl rfl ?_
        | refine LexA.gsplit _ rfl rfl rfl (fun h => ?_) (fun h => ?_)
        | refine LexA.nil ?_
      · refine ⟨⟨by rw [htk i hi, hf, if_neg (by decide), List.append_nil]; exact hok.1, by rw [hnx, htk i hi, hf, if_neg (by decide), List.append_nil]; exact hok.2⟩, ⟨rfl, rfl, rfl, rfl, congrArg (AV.int .i64) (wrap64 (by omega) (by omega)), trivial⟩, [.cells m.fs[i].row], ?_⟩
        rw [hnx, ← hB]; rfl
      · simp at h; omega
    | true =>
      rw [hf] at hcall
      have hx := hpf i hi hf
      have happ := hy.app _ (σs i) [.str m.fs[i].name] (X ++ [.cells m.fs[i].row]) hok.2 hx trivial
      rw [← List.append_assoc, ← hB] at happ
      have hnx : σs (i + 1) = (f (σs i) [.str m.fs[i].name]).2 := by
        show runIt f s _ = _
        rw [htk i hi, hf, if_pos rfl, runIt_append, hok.1]
        show (bif (f (σs i) [.str m.fs[i].name]).1 then _ else _) = _
        cases (f (σs i) [.str m.fs[i].name]).1 <;> rfl
      have hnok := hy.next _ (σs i) [.str m.fs[i].name] hok.2 hx
      repeat' first
        | (refine WpOps.elem _ rfl rfl rfl rfl rfl rfl rfl rfl rfl (Int.natCast_nonneg i) hg ?_)
        | refine WpA.seq ?_
        | refine WpA.region ?_
        | refine WpOps.op _ rfl rfl rfl rfl rfl ?_
        | refine WpOps.box _ rfl rfl rfl rfl rfl ?_
        | refine WpOps.alloc _ rfl rfl rfl rfl rfl rfl ?_
        | refine WpOps.store rfl rfl rfl rfl rfl rfl rfl rfl rfl rfl ?_
        | refine WpOps.skip rfl rfl rfl ?_
        | refine WpOps.build _ rfl rfl rfl rfl rfl ?_
        | refine WpOps.sh _ rfl rfl rfl rfl rfl ?_
        | (refine WpOps.loadOut _ rfl rfl rfl rfl rfl hpi.2.1 rfl rfl rfl ?_)
        | (refine WpOps.call rfl rfl rfl rfl rfl (by exact hcall _) ?_; rintro _ _ ⟨rfl, rfl⟩)
        | refine WpOps.gsplit _ rfl rfl rfl (fun h => ?_) (fun h => ?_)
        | refine WpA.block ?_
        | refine WpA.exit ?_
        | refine WpOps.nil ?_
        | refine WpA.ret ?_
        | refine WpA.skip ?_
        | refine WpA.condT rfl ?_
        | refine WpA.condF rfl ?_
        | refine WpA.cond _ rfl (fun h => ?_) (fun h => ?_)
        | refine WpA.draw (by kernel_rfl) ?_
        | refine LexA.op _ rfl rfl rfl rfl rfl ?_
        | refine LexA.skip rfl rfl rfl ?_
        | refine LexA.build _ rfl rfl rfl rfl rfl ?_
        | refine LexA.sh _ rfl rfl rfl rfl rfl ?_
        | refine LexA.gsplit _ rfl rfl rfl (fun h => ?_) (fun h => ?_)
        | refine LexA.nil ?_
      · refine WpOps.callV rfl rfl rfl rfl rfl happ ?_
        rintro _ _ ⟨rfl, rfl⟩
        obtain ⟨B2, hB2⟩ : ∃ B2, B2 = Hf (f (σs i) [.str m.fs[i].name]).2 ++ X := ⟨_, rfl⟩
        rw [← List.append_assoc, ← hB2]
        cases hb : (f (σs i) [.str m.fs[i].name]).1 with
        | true =>
          repeat' first
            | refine WpA.seq ?_
            | refine WpA.region ?_
            | refine WpOps.op _ rfl rfl rfl rfl rfl ?_
            | refine WpOps.box _ rfl rfl rfl rfl rfl ?_
            | refine WpOps.alloc _ rfl rfl rfl rfl rfl rfl ?_
            | refine WpOps.store rfl rfl rfl rfl rfl rfl rfl rfl rfl rfl ?_
            | refine WpOps.skip rfl rfl rfl ?_
            | refine WpOps.build _ rfl rfl rfl rfl rfl ?_
            | refine WpOps.sh _ rfl rfl rfl rfl rfl ?_
            | refine WpOps.gsplit _ rfl rfl rfl (fun h => ?_) (fun h => ?_)
            | refine WpA.block ?_
            | refine WpA.exit ?_
            | refine WpOps.nil ?_
            | refine WpA.ret ?_
            | refine WpA.skip ?_
            | refine WpA.condT rfl ?_
            | refine WpA.condF rfl ?_
            | refine WpA.cond _ rfl (fun h => ?_) (fun h => ?_)
            | refine WpA.draw (by kernel_rfl) ?_
            | refine LexA.op _ rfl rfl rfl rfl rfl ?_
            | refine LexA.skip rfl rfl rfl ?_
            | refine LexA.build _ rfl rfl rfl rfl rfl ?_
            | refine LexA.sh _ rfl rfl rfl rfl rfl ?_
            | refine LexA.gsplit _ rfl rfl rfl (fun h => ?_) (fun h => ?_)
            | refine LexA.nil ?_
          refine ⟨⟨?_, by rw [hnx, htk i hi, hf, if_pos rfl]; exact hnok hb⟩, ⟨rfl, rfl, rfl, rfl, congrArg (AV.int .i64) (wrap64 (by omega) (by omega)), trivial⟩, [.cells m.fs[i].row], by rw [hnx, ← hB2]⟩
          rw [htk i hi, hf, if_pos rfl, allIt_append, hok.1]
          show (true && (bif (f (σs i) [.str m.fs[i].name]).1 then true else false)) = true
          rw [hb]; rfl
        | false =>
          have hfin : runIt f s (nameIts (m.fs.filter ok)) = (f (σs i) [.str m.fs[i].name]).2 := by
            have e1 : m.fs = m.fs.take i ++ (m.fs[i] :: m.fs.drop (i + 1)) := by rw [← List.drop_eq_getElem_cons hi, List.take_append_drop]
            conv => lhs; rw [e1]
            rw [List.filter_append, nameIts, List.map_append, List.filter_cons, if_pos hf, List.map_cons, runIt_append]
            have h3 : allIt f s (List.map (fun f => [AV.str f.name]) ((m.fs.take i).filter ok)) = true := hok.1
            rw [h3]
            show (bif (f (σs i) [.str m.fs[i].name]).1 then _ else _) = _
            rw [hb]; rfl
          repeat' first
            | refine WpA.seq ?_
            | refine WpA.region ?_
            | refine WpOps.op _ rfl rfl rfl rfl rfl ?_
            | refine WpOps.box _ rfl rfl rfl rfl rfl ?_
            | refine WpOps.alloc _ rfl rfl rfl rfl rfl rfl ?_
            | refine WpOps.store rfl rfl rfl rfl rfl rfl rfl rfl rfl rfl ?_
            | refine WpOps.skip rfl rfl rfl ?_
            | refine WpOps.build _ rfl rfl rfl rfl rfl ?_
            | refine WpOps.sh _ rfl rfl rfl rfl rfl ?_
            | refine WpOps.gsplit _ rfl rfl rfl (fun h => ?_) (fun h => ?_)
            | refine WpA.block ?_
            | refine WpA.exit ?_
            | refine WpOps.nil ?_
            | refine WpA.ret ?_
            | refine WpA.skip ?_
            | refine WpA.condT rfl ?_
            | refine WpA.condF rfl ?_
            | refine WpA.cond _ rfl (fun h => ?_) (fun h => ?_)
            | refine WpA.draw (by kernel_rfl) ?_
            | refine LexA.op _ rfl rfl rfl rfl rfl ?_
            | refine LexA.skip rfl rfl rfl ?_
            | refine LexA.build _ rfl rfl rfl rfl rfl ?_
            | refine LexA.sh _ rfl rfl rfl rfl rfl ?_
            | refine LexA.gsplit _ rfl rfl rfl (fun h => ?_) (fun h => ?_)
            | refine LexA.nil ?_
          refine retK.sub (H1 := B2) (.inr rfl) (by rw [hB2, hN, hN]) (by rw [hB2]; exact hy.tr _ _ X) rfl rfl (r := .tup []) (Sub.refl _) (.tup (by simp)) ⟨rfl, _, rfl, ?_⟩
          rw [hfin, hB2]
      all_goals first | (simp at h; done) | (simp at h; omega)
  · refine WpA.heap (H' := (Hf (σs m.fs.length) ++ X) ++ []) (List.append_nil _).symm ?_
    repeat' first
      | refine WpA.seq ?_
      | refine WpA.region ?_
      | refine WpOps.op _ rfl rfl rfl rfl rfl ?_
      | refine WpOps.box _ rfl rfl rfl rfl rfl ?_
      | refine WpOps.alloc _ rfl rfl rfl rfl rfl rfl ?_
      | refine WpOps.store rfl rfl rfl rfl rfl rfl rfl rfl rfl rfl ?_
      | refine WpOps.skip rfl rfl rfl ?_
      | refine WpOps.build _ rfl rfl rfl rfl rfl ?_
      | refine WpOps.sh _ rfl rfl rfl rfl rfl ?_
      | refine WpOps.gsplit _ rfl rfl rfl (fun h => ?_) (fun h => ?_)
      | refine WpA.block ?_
      | refine WpA.exit ?_
      | refine WpOps.nil ?_
      | refine WpA.ret ?_
      | refine WpA.skip ?_
      | refine WpA.condT rfl ?_
      | refine WpA.condF rfl ?_
      | refine WpA.cond _ rfl (fun h => ?_) (fun h => ?_)
      | refine WpA.draw (by kernel_rfl) ?_
      | refine LexA.op _ rfl rfl rfl rfl rfl ?_
      | refine LexA.skip rfl rfl rfl ?_
      | refine LexA.build _ rfl rfl rfl rfl rfl ?_
      | refine LexA.sh _ rfl rfl rfl rfl rfl ?_
      | refine LexA.gsplit _ rfl rfl rfl (fun h => ?_) (fun h => ?_)
      | refine LexA.nil ?_
    · simp at h
    · refine retK.sub (H1 := Hf (σs m.fs.length) ++ X) (.inl rfl) (by rw [hN, hN]) (hy.tr _ _ X) rfl rfl (r := .tup []) (Sub.refl _) (.tup (by simp)) ⟨rfl, _, rfl, ?_⟩
      show Hf (runIt f s (nameIts ((m.fs.take m.fs.length).filter ok))) ++ X = _
      rw [List.take_length]
end Go.Gp.Tryd

/- The manifest: what Match asks of each file. -/
namespace Go.Gp.Tryd
open Go.Proofs
set_option linter.unusedVariables false
set_option linter.unusedSimpArgs false
set_option maxHeartbeats 4000000
set_option maxRecDepth 100000

theorem keyHash : KeyT Tryd.E 61 := ⟨by kernel_rfl, by kernel_rfl⟩
def namedPre (fs : List NFile) (m j m' j' : Nat) (H : List AObj) : Prop := H[m + j]? = some (.cells [.map m' j']) ∧ H[m' + j']? = some (.map (entries fs 0) fs.length)
def missF (fs : List NFile) (f : File) : Bool := !decide (f.name ∈ names fs)
def wrongF (fs : List NFile) (f : File) : Bool := decide (f.name ∈ names fs) && !heq (hashOf fs f.name) f

theorem match1_A (fs : List NFile) (m j m' j' : Nat) (f : File) (H X : List AObj) (hp : namedPre fs m j m' j' H) : CallsA E 37 ([.agg f.row] ++ [.ptr m j 0]) (H ++ X) (Is (H ++ X) (.bool (missF fs f))) := by
  have hh := fun L => has_A (entries fs 0) fs.length (entries_bytes fs 0).keys f.name m' j' ((H ++ X) ++ L) (getL (getL hp.2))
  rw [entries_keys] at hh
  refine .enter Tryd.func37 rfl rfl rfl 9 Tryd.ntmps37 (Nat.le_of_ble_eq_true rfl) ?_
  repeat' first
    | refine WpA.seq ?_
    | refine WpA.region ?_
    | refine WpOps.op _ rfl rfl rfl rfl rfl ?_
    | refine WpOps.box _ rfl rfl rfl rfl rfl ?_
    | refine WpOps.alloc _ rfl rfl rfl rfl rfl rfl ?_
    | refine WpOps.store rfl rfl rfl rfl rfl rfl rfl rfl rfl rfl ?_
    | refine WpOps.skip rfl rfl rfl ?_
    | refine WpOps.build _ rfl rfl rfl rfl rfl ?_
    | refine WpOps.sh _ rfl rfl rfl rfl rfl ?_
    | (refine WpOps.call rfl rfl rfl rfl rfl (by exact hh _) ?_; rintro _ _ ⟨rfl, rfl⟩)
    | (refine WpOps.loadOut _ rfl rfl rfl rfl rfl (getL hp.1) rfl rfl rfl ?_)
    | refine WpOps.gsplit _ rfl rfl rfl (fun h => ?_) (fun h => ?_)
    | refine WpA.block ?_
    | refine WpA.exit ?_
    | refine WpOps.nil ?_
    | refine WpA.ret ?_
    | refine WpA.skip ?_
    | refine WpA.condT rfl ?_
    | refine WpA.condF rfl ?_
    | refine WpA.cond _ rfl (fun h => ?_) (fun h => ?_)
    | refine WpA.draw (by kernel_rfl) ?_
    | refine LexA.op _ rfl rfl rfl rfl rfl ?_
    | refine LexA.skip rfl rfl rfl ?_
    | refine LexA.build _ rfl rfl rfl rfl rfl ?_
    | refine LexA.sh _ rfl rfl rfl rfl rfl ?_
    | refine LexA.call rfl rfl rfl rfl rfl (by exact hh _) ?_
    | refine LexA.gsplit _ rfl rfl rfl (fun h => ?_) (fun h => ?_)
    | refine LexA.nil ?_
  exact retK.ok rfl rfl rfl .bool

theorem match2_A (fs : List NFile) (hb : ∀ f ∈ fs, f.bytes.length ≤ 1000000000) (m j m' j' : Nat) (f : File) (H X : List AObj) (hp : namedPre fs m j m' j' H) : CallsA E 39 ([.agg f.row] ++ [.ptr m j 0]) (H ++ X) (Is (H ++ X) (.bool (wrongF fs f))) := by
  have hh := fun L => has_A (entries fs 0) fs.length (entries_bytes fs 0).keys f.name m' j' ((H ++ X) ++ L) (getL (getL hp.2))
  rw [entries_keys] at hh
  have hs := fun H => sum_A (bytesAt fs f.name) (Nat.le_trans (bytesAt_len hb _) (by decide)) H
  have hX : ∀ L, ((H ++ X) ++ L)[m + j]? = some (.cells [.map m' j']) := fun L => getL (getL hp.1)
  have hM : ∀ L, ((H ++ X) ++ L)[m' + j']? = some (.map (entries fs 0) fs.length) := fun L => getL (getL hp.2)
  have hlk : f.name ∈ names fs → ∀ ei : TI, zeroV ei = .sl .full 0 [] → (lookM ei (entries fs 0) (.str f.name)).1 = .sl .no 1 ((bytesAt fs f.name).map byteRow) := fun hin ei hz => by rw [look_entries hz, if_pos hin]
  refine .enter Tryd.func39 rfl rfl rfl 18 Tryd.ntmps39 (Nat.le_of_ble_eq_true rfl) ?_
  by_cases hin : f.name ∈ names fs
  · have e1 : decide (f.name ∈ names fs) = true := decide_eq_true hin
    rw [e1] at hh
    have hlk := hlk hin
    repeat' first
      | refine WpA.seq ?_
      | refine WpA.region ?_
      | refine WpOps.op _ rfl rfl rfl rfl rfl ?_
      | refine WpOps.box _ rfl rfl rfl rfl rfl ?_
      | refine WpOps.alloc _ rfl rfl rfl rfl rfl rfl ?_
      | refine WpOps.store rfl rfl rfl rfl rfl rfl rfl rfl rfl rfl ?_
      | refine WpOps.skip rfl rfl rfl ?_
      | refine WpOps.build _ rfl rfl rfl rfl rfl ?_
      | refine WpOps.sh _ rfl rfl rfl rfl rfl ?_
      | (refine WpOps.call rfl rfl rfl rfl rfl (by exact hh _) ?_; rintro _ _ ⟨rfl, rfl⟩)
      | (refine WpOps.call rfl rfl rfl rfl rfl (by exact hs _) ?_; rintro _ _ ⟨rfl, rfl⟩)
      | (refine LexA.p1 rfl rfl rfl (.loadN rfl rfl (hX _) rfl rfl rfl rfl) ?_)
      | (refine LexA.p1 rfl rfl rfl (.lookupV rfl rfl rfl (hM _) rfl rfl (keyK_of (entries_bytes fs 0).keys) (hlk _ rfl)) ?_)
      | refine LexA.neA rfl rfl rfl rfl rfl rfl keyHash (by exact eqHash (hashOf fs f.name) f) ?_
      | refine WpOps.gsplit _ rfl rfl rfl (fun h => ?_) (fun h => ?_)
      | refine WpA.block ?_
      | refine WpA.exit ?_
      | refine WpOps.nil ?_
      | refine WpA.ret ?_
      | refine WpA.skip ?_
      | refine WpA.condT rfl ?_
      | refine WpA.condF rfl ?_
      | refine WpA.cond _ rfl (fun h => ?_) (fun h => ?_)
      | refine WpA.draw (by kernel_rfl) ?_
      | refine LexA.op _ rfl rfl rfl rfl rfl ?_
      | refine LexA.skip rfl rfl rfl ?_
      | refine LexA.build _ rfl rfl rfl rfl rfl ?_
      | refine LexA.sh _ rfl rfl rfl rfl rfl ?_
      | refine LexA.call rfl rfl rfl rfl rfl (by exact hh _) ?_
      | refine LexA.call rfl rfl rfl rfl rfl (by exact hs _) ?_
      | refine LexA.gsplit _ rfl rfl rfl (fun h => ?_) (fun h => ?_)
      | refine LexA.nil ?_
    exact retK.ok rfl rfl (congrArg AV.bool (by rw [wrongF, e1]; rfl)) .bool
  · have e1 : decide (f.name ∈ names fs) = false := decide_eq_false hin
    rw [e1] at hh
    repeat' first
      | refine WpA.seq ?_
      | refine WpA.region ?_
      | refine WpOps.op _ rfl rfl rfl rfl rfl ?_
      | refine WpOps.box _ rfl rfl rfl rfl rfl ?_
      | refine WpOps.alloc _ rfl rfl rfl rfl rfl rfl ?_
      | refine WpOps.store rfl rfl rfl rfl rfl rfl rfl rfl rfl rfl ?_
      | refine WpOps.skip rfl rfl rfl ?_
      | refine WpOps.build _ rfl rfl rfl rfl rfl ?_
      | refine WpOps.sh _ rfl rfl rfl rfl rfl ?_
      | (refine WpOps.call rfl rfl rfl rfl rfl (by exact hh _) ?_; rintro _ _ ⟨rfl, rfl⟩)
      | (refine LexA.p1 rfl rfl rfl (.loadN rfl rfl (hX _) rfl rfl rfl rfl) ?_)
      | refine WpOps.gsplit _ rfl rfl rfl (fun h => ?_) (fun h => ?_)
      | refine WpA.block ?_
      | refine WpA.exit ?_
      | refine WpOps.nil ?_
      | refine WpA.ret ?_
      | refine WpA.skip ?_
      | refine WpA.condT rfl ?_
      | refine WpA.condF rfl ?_
      | refine WpA.cond _ rfl (fun h => ?_) (fun h => ?_)
      | refine WpA.draw (by kernel_rfl) ?_
      | refine LexA.op _ rfl rfl rfl rfl rfl ?_
      | refine LexA.skip rfl rfl rfl ?_
      | refine LexA.build _ rfl rfl rfl rfl rfl ?_
      | refine LexA.sh _ rfl rfl rfl rfl rfl ?_
      | refine LexA.call rfl rfl rfl rfl rfl (by exact hh _) ?_
      | refine LexA.gsplit _ rfl rfl rfl (fun h => ?_) (fun h => ?_)
      | refine LexA.nil ?_
    exact retK.ok rfl rfl (congrArg AV.bool (by rw [wrongF, e1]; rfl)) .bool

theorem map_erase {α β : Type} (g : α → β) : ∀ (l : List α) (j : Nat), (l.eraseIdx j).map g = (l.map g).eraseIdx j
  | [], _ => rfl
  | _ :: _, 0 => rfl
  | a :: l, j + 1 => by rw [List.eraseIdx_cons_succ, List.map_cons, List.map_cons, List.eraseIdx_cons_succ, map_erase g l j]
/-- Names cut out of a map. -/
theorem cutM_spec {es : List AEntry} (h : BytesM es) (hn : (keysOf es).Nodup) (s : List UInt8) : BytesM (cutM es (.str s)) ∧ keysOf (cutM es (.str s)) = (keysOf es).filter (fun k => k != s) ∧ (cutM es (.str s)).Sublist es := by
  unfold cutM
  cases hf : findA (.str s) es with
  | none =>
    have := (findA_none h.keys).1 hf
    refine ⟨h, ?_, List.Sublist.refl _⟩
    exact (List.filter_eq_self.2 fun a ha => by simp only [bne_iff_ne]; rintro rfl; exact this ha).symm
  | some j =>
    have h1 := findA_some h.keys hf
    have hsub := List.eraseIdx_sublist es j
    refine ⟨fun e he => h e (hsub.subset he), ?_, hsub⟩
    have e1 : keysOf (es.eraseIdx j) = (keysOf es).eraseIdx j := map_erase _ _ _
    rw [e1]
    generalize keysOf es = ks at h1 hn
    clear hf e1 hsub h
    induction ks generalizing j with
    | nil => simp at h1
    | cons k ks ih =>
      obtain ⟨n1, n2⟩ := List.nodup_cons.1 hn
      cases j with
      | zero =>
        simp at h1
        subst h1
        simp only [List.eraseIdx_cons_zero, List.filter_cons, bne_self_eq_false]
        exact (List.filter_eq_self.2 fun a ha => by simp only [bne_iff_ne]; rintro rfl; exact n1 ha).symm
      | succ j =>
        rw [List.getElem?_cons_succ] at h1
        have hks : k ≠ s := fun e => n1 (e ▸ List.mem_of_getElem? h1)
        rw [List.eraseIdx_cons_succ, ih j h1 n2, List.filter_cons, if_pos (by simpa using hks)]
def cutAll (es : List AEntry) (fs : List File) : List AEntry := fs.foldl (fun es f => cutM es (.str f.name)) es
theorem cutAll_spec : ∀ (fs : List File) {es : List AEntry}, BytesM es → (keysOf es).Nodup → BytesM (cutAll es fs) ∧ keysOf (cutAll es fs) = (keysOf es).filter (fun k => !(fs.map (·.name)).contains k) ∧ (cutAll es fs).Sublist es
  | [], es, h, hn => ⟨h, (List.filter_eq_self.2 fun a _ => rfl).symm, List.Sublist.refl _⟩
  | f :: fs, es, h, hn => by
    obtain ⟨h1, h2, h3⟩ := cutM_spec h hn f.name
    have hn1 : (keysOf (cutM es (.str f.name))).Nodup := by rw [h2]; exact hn.filter _
    obtain ⟨i1, i2, i3⟩ := cutAll_spec fs h1 hn1
    refine ⟨i1, ?_, i3.trans h3⟩
    show keysOf (cutAll (cutM es (.str f.name)) fs) = _
    rw [i2, h2, List.filter_filter]
    apply List.filter_congr
    intro k _
    simp [Bool.and_comm]
    by_cases hk : k = f.name <;> simp [hk]
theorem cutAll_snoc (es : List AEntry) (fs : List File) (f : File) : cutAll es (fs ++ [f]) = cutM (cutAll es fs) (.str f.name) := by rw [cutAll, List.foldl_append]; rfl
end Go.Gp.Tryd
