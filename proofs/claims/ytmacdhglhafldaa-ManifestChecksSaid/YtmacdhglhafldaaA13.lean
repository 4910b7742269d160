/- Structs, arrays and slices written out; appends. -/
import Derived.Test.YtmacdhglhafldaaA12
namespace Go.Gp
open Go.RowKit
set_option linter.unusedVariables false
set_option linter.unusedSimpArgs false

theorem foldl_set_get : ∀ (l : List Value) (s off : Nat) (arr : Array Value), off + s + l.length ≤ arr.size →
    ((l.zipIdx s).foldl (fun cs (x : Value × Nat) => cs.setIfInBounds (off + x.2) x.1) arr).size = arr.size ∧
    ∀ k : Nat, ((l.zipIdx s).foldl (fun cs (x : Value × Nat) => cs.setIfInBounds (off + x.2) x.1) arr)[k]? = if off + s ≤ k ∧ k < off + s + l.length then l[k - (off + s)]? else arr[k]?
  | [], s, off, arr, h => ⟨rfl, fun k => by rw [if_neg (by simp only [List.length_nil]; omega)]; rfl⟩
  | v :: l, s, off, arr, h => by
    simp only [List.length_cons] at h
    rw [List.zipIdx_cons, List.foldl_cons]
    obtain ⟨h1, h2⟩ := foldl_set_get l (s + 1) off (arr.setIfInBounds (off + s) v) (by simp; omega)
    refine ⟨by simpa using h1, fun k => ?_⟩
    rw [h2 k, Array.getElem?_setIfInBounds]
    simp only [List.length_cons]
    by_cases hk1 : off + (s + 1) ≤ k ∧ k < off + (s + 1) + l.length
    · rw [if_pos hk1, if_pos (by omega), show k - (off + s) = (k - (off + (s + 1))) + 1 from by omega, List.getElem?_cons_succ]
    · rw [if_neg hk1]
      by_cases hk : off + s = k
      · rw [if_pos hk, if_pos (by omega), if_pos (by omega), ← hk, Nat.sub_self]
        rfl
      · rw [if_neg hk, if_neg (by omega)]

theorem fill_sound {c : Cfg} {place : Nat → Option (Nat × Nat)} : ∀ (ps : List (Nat × AV)) (qs : List (Nat × Value)) (cells : List AV) (vs : List Value) (out : List AV),
    ps.length = qs.length → (∀ (i : Nat) p q, ps[i]? = some p → qs[i]? = some q → p.1 = q.1 ∧ RelV c p.2 q.2) → RelL c cells vs → fillA place cells ps = some out →
    ∃ us, Instr.fill place vs.toArray qs = some us ∧ RelL c out us.toList
  | [], [], cells, vs, out, _, _, hr, h => by
    simp only [fillA, Option.some.injEq] at h
    subst h
    exact ⟨vs.toArray, rfl, by simpa using hr⟩
  | [], _ :: _, _, _, _, hl, _, _, _ => by simp at hl
  | _ :: _, [], _, _, _, hl, _, _, _ => by simp at hl
  | (i, x) :: ps, (i', v) :: qs, cells, vs, out, hl, hp, hr, h => by
    obtain ⟨hi, hv⟩ := hp 0 (i, x) (i', v) rfl rfl
    simp only at hi hv
    subst hi
    unfold fillA at h
    split at h <;> try (simp at h; done)
    rename_i off size cs hpl hcs
    cases hb : (Nat.beq cs.length size && Nat.ble (off + cs.length) cells.length) with
    | false => rw [hb] at h; simp at h
    | true =>
      rw [hb] at h
      simp only [cond_true] at h
      simp only [Bool.and_eq_true] at hb
      have h1 : cs.length = size := Nat.eq_of_beq_eq_true hb.1
      have h2 : off + cs.length ≤ cells.length := Nat.le_of_ble_eq_true hb.2
      have hcr := cellsA_rel hv hcs
      have hcl : v.cells.size = cs.length := by have := hcr.1; simp at this; omega
      have hvl := hr.1
      obtain ⟨g1, g2⟩ := foldl_set_get v.cells.toList 0 off vs.toArray (by simp; omega)
      unfold Instr.fill
      simp only [hpl]
      rw [if_neg (by simp; omega)]
      have e : v.cells.zipIdx.foldl (fun cs (x : Value × Nat) => cs.setIfInBounds (off + x.2) x.1) vs.toArray = (v.cells.toList.zipIdx 0).foldl (fun cs (x : Value × Nat) => cs.setIfInBounds (off + x.2) x.1) vs.toArray := by
        rw [← Array.foldl_toList, Array.toList_zipIdx]
      have hR : RelL c (cells.take off ++ cs ++ cells.drop (off + cs.length)) ((v.cells.toList.zipIdx 0).foldl (fun cs (x : Value × Nat) => cs.setIfInBounds (off + x.2) x.1) vs.toArray).toList := by
        have hlen : (cells.take off ++ cs ++ cells.drop (off + cs.length)).length = cells.length := by simp; omega
        refine ⟨hlen.trans (hvl.trans (g1.symm.trans Array.length_toList.symm)), fun k a u ha hu => ?_⟩
        rw [Array.getElem?_toList, g2 k] at hu
        simp only [Nat.add_zero, Array.length_toList, hcl] at hu
        have hl1 : (cells.take off).length = off := by rw [List.length_take]; omega
        by_cases hk1 : k < off
        · rw [if_neg (by omega)] at hu
          rw [List.append_assoc, List.getElem?_append_left (by omega), List.getElem?_take, if_pos hk1] at ha
          exact hr.2 k a u ha (by simpa using hu)
        · by_cases hk2 : k < off + cs.length
          · rw [if_pos (by omega)] at hu
            rw [List.getElem?_append_left (by rw [List.length_append]; omega), List.getElem?_append_right (by omega), hl1] at ha
            exact hcr.2 (k - off) a u ha hu
          · rw [if_neg (by omega)] at hu
            rw [List.getElem?_append_right (by rw [List.length_append]; omega), List.getElem?_drop, List.length_append, hl1] at ha
            rw [show off + cs.length + (k - (off + cs.length)) = k from by omega] at ha
            exact hr.2 k a u ha (by simpa using hu)
      obtain ⟨us, h3, h4⟩ := fill_sound ps qs (cells.take off ++ cs ++ cells.drop (off + cs.length)) ((v.cells.toList.zipIdx 0).foldl (fun cs (x : Value × Nat) => cs.setIfInBounds (off + x.2) x.1) vs.toArray).toList out (by simpa using hl)
        (fun k p q hk hq => hp (k + 1) p q (by simpa using hk) (by simpa using hq)) hR h
      refine ⟨us, ?_, h4⟩
      rw [Array.toArray_toList] at h3
      rw [← e] at h3
      exact h3

def evalP (G : GEnv) (t : Slots) : List (Nat × Operand) → List (Nat × AV)
  | [] => []
  | (i, x) :: xs => (i, evalA G t x) :: evalP G t xs

theorem evalP_rel {G : GEnv} {c : Cfg} {n : Nat} {t : Slots} {a : Act} (ho : Ok G c) (s : SR c n t a) : ∀ (xs : List (Nat × Operand)),
    (evalP G t xs).length = (xs.map fun x => (x.1, a.eval x.2)).length ∧ ∀ (i : Nat) p q, (evalP G t xs)[i]? = some p → (xs.map fun x => (x.1, a.eval x.2))[i]? = some q → p.1 = q.1 ∧ RelV c p.2 q.2
  | [] => ⟨rfl, fun i p q h => by simp [evalP] at h⟩
  | (i, x) :: xs => by
    obtain ⟨h1, h2⟩ := evalP_rel ho s xs
    refine ⟨by simp [evalP] at h1 ⊢; exact h1, fun k p q hp hq => ?_⟩
    cases k with
    | zero =>
      simp [evalP] at hp hq
      subst hp; subst hq
      exact ⟨rfl, eval_rel ho s x⟩
    | succ k => exact h2 k p q (by simpa [evalP] using hp) (by simpa using hq)

theorem evalP_congr {G : GEnv} {t t' : Slots} : ∀ {xs : List (Nat × Operand)}, (∀ x ∈ xs, evalA G t' x.2 = evalA G t x.2) → evalP G t' xs = evalP G t xs
  | [], _ => rfl
  | (i, x) :: xs, h => by
    simp only [evalP]
    rw [h (i, x) List.mem_cons_self, evalP_congr fun y hy => h y (List.mem_cons_of_mem _ hy)]

/-- Where a field's cells lie. -/
def placesOf (T : List (Nat × TI)) : List (Nat × Nat) → Option (List (Nat × Nat))
  | [] => some []
  | (off, ft) :: fs => match lookT T ft, placesOf T fs with
    | some j, some ps => some ((off, j.sz) :: ps)
    | _, _ => none

def buildA (T : List (Nat × TI)) (ty : Nat) (ps : List (Nat × AV)) : Option (List AV) :=
  match lookT T ty with
  | some i => match zeroA i, i.d with
    | some z, .struct fs => match placesOf T fs with
      | some pl => fillA (fun k => pl[k]?) z ps
      | none => none
    | some z, .array _ e => match lookT T e with
      | some j => fillA (fun k => some (k * j.sz, j.sz)) z ps
      | none => none
    | _, _ => none
  | none => none

theorem run_places {E : Env} {w : World} : ∀ (gs : List Field) (pl : List (Nat × Nat)), placesOf E.T (gs.map fun f => (f.offset, f.type)) = some pl →
    (gs.mapM fun f => (do pure (f.offset, ← sizeOf f.type) : Sem (Nat × Nat))).run E.P w = .ok pl w
  | [], pl, h => by simp [placesOf] at h; subst h; rfl
  | g :: gs, pl, h => by
    simp only [List.map_cons, placesOf] at h
    split at h <;> try (simp at h; done)
    rename_i j ps hj hps
    injection h with h
    subst h
    rw [List.mapM_cons]
    simp only [Sem.run_bind, run_sizeOf hj, Result.andThen_ok, Sem.run_pure, run_places gs ps hps]

theorem P1.build {E : Env} {n : Nat} {H : List AObj} {o : Oper} {t : Slots} {ty : Nat} {ps : List (Nat × Operand)} {cs : List AV} (hop : o.op = .build ty ⟨ps⟩) (h : buildA E.T ty (evalP E.G t ps) = some cs) : P1 E n H H o t (.agg cs) :=
  .still (fun cc e => by rw [hop] at e; cases e) (fun c a hH ho sr => by
    unfold buildA at h
    split at h <;> try (simp at h; done)
    rename_i i hi
    obtain ⟨q1, q2⟩ := evalP_rel ho sr ps
    obtain ⟨d, hu, hok⟩ := (Env.ti hi).u
    split at h <;> try (simp at h; done)
    · rename_i z fs hz hd
      rw [hd] at hok
      obtain ⟨gs, rfl, hgs⟩ := hok
      split at h <;> try (simp at h; done)
      rename_i pl hpl
      have hzr := cellsA_rel (constA_rel c i.zero) hz
      obtain ⟨us, h1, h2⟩ := fill_sound _ _ _ _ _ q1 q2 hzr h
      rw [← hgs] at hpl
      have hp := run_places (w := c.w) _ _ hpl
      refine ⟨.agg us, ?_, by have := RelV.agg us.toList h2.1 h2.2; simpa using this⟩
      have hm : (gs.mapM fun f => (do pure (f.offset, ← sizeOf f.type) : Sem (Nat × Nat))).run E.P c.w = .ok pl.toArray c.w := by
        rw [Array.mapM_eq_mapM_toList, Sem.run_map]
        rw [hp]
        rfl
      have hf : Instr.fill (fun x => pl.toArray[x]?) i.zero.cells (List.map (fun x => (x.1, a.eval x.2)) ps) = some us := by
        simpa using h1
      simp only [execOp, hop, Instr.build, Sem.run_bind, run_zeroValue hi, Result.andThen_ok, run_underlying hu, hm, List.map_toArray]
      simp only [hf, Sem.run_pure, Result.andThen_ok]
    · rename_i z m e hz hd
      rw [hd] at hok
      have hok' : d = .array m e := hok
      subst hok'
      split at h <;> try (simp at h; done)
      rename_i j hj
      have hzr := cellsA_rel (constA_rel c i.zero) hz
      obtain ⟨us, h1, h2⟩ := fill_sound _ _ _ _ _ q1 q2 hzr h
      refine ⟨.agg us, ?_, by have := RelV.agg us.toList h2.1 h2.2; simpa using this⟩
      have hf : Instr.fill (fun x => some (x * j.sz, j.sz)) i.zero.cells (List.map (fun x => (x.1, a.eval x.2)) ps) = some us := by
        simpa using h1
      simp only [execOp, hop, Instr.build, Sem.run_bind, run_zeroValue hi, Result.andThen_ok, run_underlying hu, run_sizeOf hj, List.map_toArray]
      simp only [hf, Sem.run_pure, Result.andThen_ok])

def chunkA (z : Nat) : Nat → List AV → List (List AV)
  | 0, _ => []
  | m + 1, cs => cs.take z :: chunkA z m (cs.drop z)

theorem chunk_length (z : Nat) : ∀ (m : Nat) (cs : List AV), (chunkA z m cs).length = m
  | 0, _ => rfl
  | m + 1, cs => by simp [chunkA, chunk_length z m]

theorem chunk_flatten (z : Nat) : ∀ (m : Nat) (cs : List AV), cs.length = m * z → (chunkA z m cs).flatten = cs ∧ ∀ x ∈ chunkA z m cs, x.length = z
  | 0, cs, h => by
    have : cs = [] := List.length_eq_zero_iff.1 (by omega)
    subst this
    exact ⟨rfl, fun x hx => by simp [chunkA] at hx⟩
  | m + 1, cs, h => by
    have hz : (m + 1) * z = m * z + z := by rw [Nat.add_mul]; omega
    obtain ⟨h1, h2⟩ := chunk_flatten z m (cs.drop z) (by rw [List.length_drop]; omega)
    refine ⟨by simp only [chunkA, List.flatten_cons, h1, List.take_append_drop], fun x hx => ?_⟩
    rcases List.mem_cons.1 hx with rfl | hx
    · rw [List.length_take]; omega
    · exact h2 x hx

theorem relL_unk (c : Cfg) : ∀ (vs : List Value), RelL c (List.replicate vs.length .unk) vs
  | [] => RelL.nil c
  | v :: vs => RelL.cons .unk (relL_unk c vs)

/-- A slice written out: nobody else has it. -/
theorem P1.buildSlice {E : Env} {n : Nat} {H : List AObj} {o : Oper} {t : Slots} {ty e len z : Nat} {j : TI} {ps : List (Nat × Operand)} {cs : List AV} (hop : o.op = .buildSlice ty len ⟨ps⟩) (hs : sliceOf E.T ty = some (e, j)) (hz : j.sz = z)
    (h : fillA (fun k => some (k * z, z)) (List.replicate (len * z) .unk) (evalP E.G t ps) = some cs) (hl : Nat.beq cs.length (len * z) = true) (hsm : Nat.ble (len * z) 16777216 = true) (hb : 0 < z) (hzc : Nat.beq j.zero.cells.size z = true) :
    P1 E n H H o t (.sl .full z (chunkA z len cs)) :=
  ⟨fun cc e => (by rw [hop] at e; cases e), fun c a hH ho sr => by
    subst hz
    obtain ⟨hu, hj⟩ := sliceOf_spec hs
    obtain ⟨q1, q2⟩ := evalP_rel ho sr ps
    have hl' : cs.length = len * j.sz := Nat.eq_of_beq_eq_true hl
    have hsm' : len * j.sz ≤ 16777216 := Nat.le_of_ble_eq_true hsm
    generalize hz0 : (if len * j.sz = 0 then #[] else j.zero.cells) = zero
    have hzl : ((Array.range (len * j.sz)).map fun k => zero[k % zero.size]!).toList.length = len * j.sz := by simp
    have hrl := relL_unk c ((Array.range (len * j.sz)).map fun k => zero[k % zero.size]!).toList
    rw [hzl] at hrl
    obtain ⟨us, h1, h2⟩ := fill_sound _ _ _ _ _ q1 q2 hrl h
    rw [Array.toArray_toList] at h1
    have hx := Ext.push c (.cells us e) ho.hr
    have hh := ho.hr.push (.cells us e)
    refine ⟨.slice (some ⟨c.w.heap.size, 0, none⟩) len len, c.ι, c.w.alloc (.cells us e), ?_, by rw [← hH]; exact hx, by rw [← hH]; exact hh, ?_⟩
    · have hno : ¬ (len * j.sz > 2 ^ 24) := by omega
      have hf : Instr.fill (fun i => some (i * j.sz, j.sz)) ((Array.range (len * j.sz)).map fun k => zero[k % zero.size]!) (List.map (fun x => (x.1, a.eval x.2)) ps) = some us := h1
      by_cases h0 : len * j.sz = 0
      · rw [if_pos h0] at hz0
        subst hz0
        simp only [execOp, hop, Instr.buildSlice, Sem.run_bind, run_underlying hu, run_sizeOf hj, Result.andThen_ok, if_neg hno, if_pos h0, Sem.run_pure, List.map_toArray]
        simp only [hf, Sem.run_bind, run_newRow, Result.andThen_ok, Sem.run_pure]
      · rw [if_neg h0] at hz0
        subst hz0
        simp only [execOp, hop, Instr.buildSlice, Sem.run_bind, run_underlying hu, run_sizeOf hj, run_zeroValue hj, Result.andThen_ok, if_neg hno, if_neg h0, Sem.run_pure, List.map_toArray]
        simp only [hf, Sem.run_bind, run_newRow, Result.andThen_ok, Sem.run_pure]
    · obtain ⟨f1, f2⟩ := chunk_flatten j.sz len cs hl'
      have : RelV (c.push (.cells us e)) (.sl .full j.sz (chunkA j.sz len cs)) (.slice (some ⟨c.w.heap.size, 0, none⟩) len len) :=
        mk_sl (ws := us.toList) (chunk_length _ _ _) (Nat.le_refl _) f2 rfl (by rw [f1]; exact h2.mono hx.toExt0) (fun k v hv => new_fz ho.hr (by simpa using hv))
      rw [← hH]
      exact this⟩

/-- AN APPEND TO A SLICE WITHOUT SPARE PLACES: what comes of it is nobody's to write. -/
theorem P1.appF {E : Env} {n : Nat} {H : List AObj} {o : Oper} {t : Slots} {ty tx e z : Nat} {j ix : TI} {p q : Operand} {xs ys : List (List AV)}
    (hop : o.op = .call { callee := .builtin .append, args := ⟨[p, q]⟩, argTypes := ⟨[ty, tx]⟩ }) (hs : sliceOf E.T ty = some (e, j)) (hz : j.sz = z) (hx : lookT E.T tx = some ix) (hd : ∀ k, ix.d ≠ .int k)
    (hb : Nat.blt 0 j.bytes = true) (hp : evalA E.G t p = .sl .full z xs) (hq : srcA z (evalA E.G t q) = some ys) (hfit : (xs.length + ys.length) * j.bytes ≤ 140737488355328) :
    P1 E n H H o t (.sl .no z (xs ++ ys)) :=
  ⟨fun cc e => (by rw [hop] at e; cases e), fun c a hH ho sr => by
    subst hz
    have hpr := eval_rel ho sr p
    rw [hp] at hpr
    have hqr := eval_rel ho sr q
    obtain ⟨s1, s2⟩ := srcA_ok hq hqr
    obtain ⟨v', w', h1, h2, h3, h4⟩ := app_full (ty0 := o.type) ho.hr hs hx hd (by simpa using hb) hpr s1 s2 hfit
    rw [hH] at h2 h3 h4
    refine ⟨v', c.ι, w', ?_, h2, h3, h4⟩
    simp [execOp, hop, resolve, invoke, builtin, h1]⟩

section
variable {E : Env} {ro : Option Nat} {n : Nat} {K : Kont} {t : Slots} {H H1 L : List AObj} {ops : Array Oper} {o : Oper} {rest : List Oper} {Kc : Slots → Prop}

theorem WpOps.build {d ty : Nat} {ps : List (Nat × Operand)} (cs : List AV) (hw : wantedA ops t o = some true) (hd : o.dst = some d) (hdn : Nat.blt d n = true) (hop : o.op = .build ty ⟨ps⟩) (h : buildA E.T ty (evalP E.G t ps) = some cs)
    (hk : WpOps E ro n ops rest K ((d, .agg cs) :: t) H) : WpOps E ro n ops (o :: rest) K t H := .p1 hw hd hdn (.build hop h) hk
theorem LexA.build {d ty : Nat} {ps : List (Nat × Operand)} (cs : List AV) (hw : wantedA ops t o = some true) (hd : o.dst = some d) (hdn : Nat.blt d n = true) (hop : o.op = .build ty ⟨ps⟩) (h : buildA E.T ty (evalP E.G t ps) = some cs)
    (hk : LexA E ro n H ops Kc rest ((d, .agg cs) :: t)) : LexA E ro n H ops Kc (o :: rest) t :=
  .p1 hw hd hdn (.build hop (by rw [evalP_congr (xs := ps) (t' := cutT (o.looksAt ops) t) (t := t) fun x hx => evalA_cut (by rw [hop]; simp only [Op.operands, List.map_toArray]; exact List.mem_toArray.2 (List.mem_map.2 ⟨x, hx, rfl⟩))]; exact h)) hk

theorem WpOps.buildSlice {d ty e len z : Nat} {j : TI} {ps : List (Nat × Operand)} (cs : List AV) (hw : wantedA ops t o = some true) (hd : o.dst = some d) (hdn : Nat.blt d n = true) (hop : o.op = .buildSlice ty len ⟨ps⟩) (hs : sliceOf E.T ty = some (e, j)) (hz : j.sz = z)
    (h : fillA (fun k => some (k * z, z)) (List.replicate (len * z) .unk) (evalP E.G t ps) = some cs) (hl : Nat.beq cs.length (len * z) = true) (hsm : Nat.ble (len * z) 16777216 = true) (hb : Nat.blt 0 z = true) (hzc : Nat.beq j.zero.cells.size z = true)
    (hk : WpOps E ro n ops rest K ((d, .sl .full z (chunkA z len cs)) :: t) H) : WpOps E ro n ops (o :: rest) K t H := .p1 hw hd hdn (.buildSlice hop hs hz h hl hsm (by simpa using hb) hzc) hk
theorem LexA.buildSlice {d ty e len z : Nat} {j : TI} {ps : List (Nat × Operand)} (cs : List AV) (hw : wantedA ops t o = some true) (hd : o.dst = some d) (hdn : Nat.blt d n = true) (hop : o.op = .buildSlice ty len ⟨ps⟩) (hs : sliceOf E.T ty = some (e, j)) (hz : j.sz = z)
    (h : fillA (fun k => some (k * z, z)) (List.replicate (len * z) .unk) (evalP E.G t ps) = some cs) (hl : Nat.beq cs.length (len * z) = true) (hsm : Nat.ble (len * z) 16777216 = true) (hb : Nat.blt 0 z = true) (hzc : Nat.beq j.zero.cells.size z = true)
    (hk : LexA E ro n H ops Kc rest ((d, .sl .full z (chunkA z len cs)) :: t)) : LexA E ro n H ops Kc (o :: rest) t :=
  .p1 hw hd hdn (.buildSlice hop hs hz (by rw [evalP_congr (xs := ps) (t' := cutT (o.looksAt ops) t) (t := t) fun x hx => evalA_cut (by rw [hop]; simp only [Op.operands, List.map_toArray]; exact List.mem_toArray.2 (List.mem_map.2 ⟨x, hx, rfl⟩))]; exact h) hl hsm (by simpa using hb) hzc) hk

theorem WpOps.appF {d ty tx e z : Nat} {j ix : TI} {p q : Operand} {xs ys : List (List AV)} (hw : wantedA ops t o = some true) (hd : o.dst = some d) (hdn : Nat.blt d n = true)
    (hop : o.op = .call { callee := .builtin .append, args := ⟨[p, q]⟩, argTypes := ⟨[ty, tx]⟩ }) (hs : sliceOf E.T ty = some (e, j)) (hz : j.sz = z) (hx : lookT E.T tx = some ix) (hdd : ∀ k, ix.d ≠ .int k)
    (hb : Nat.blt 0 j.bytes = true) (hp : evalA E.G t p = .sl .full z xs) (hq : srcA z (evalA E.G t q) = some ys) (hfit : (xs.length + ys.length) * j.bytes ≤ 140737488355328)
    (hk : WpOps E ro n ops rest K ((d, .sl .no z (xs ++ ys)) :: t) H) : WpOps E ro n ops (o :: rest) K t H := .p1 hw hd hdn (.appF hop hs hz hx hdd hb hp hq hfit) hk
theorem LexA.appF {d ty tx e z : Nat} {j ix : TI} {p q : Operand} {xs ys : List (List AV)} (hw : wantedA ops t o = some true) (hd : o.dst = some d) (hdn : Nat.blt d n = true)
    (hop : o.op = .call { callee := .builtin .append, args := ⟨[p, q]⟩, argTypes := ⟨[ty, tx]⟩ }) (hs : sliceOf E.T ty = some (e, j)) (hz : j.sz = z) (hx : lookT E.T tx = some ix) (hdd : ∀ k, ix.d ≠ .int k)
    (hb : Nat.blt 0 j.bytes = true) (hp : evalA E.G t p = .sl .full z xs) (hq : srcA z (evalA E.G t q) = some ys) (hfit : (xs.length + ys.length) * j.bytes ≤ 140737488355328)
    (hk : LexA E ro n H ops Kc rest ((d, .sl .no z (xs ++ ys)) :: t)) : LexA E ro n H ops Kc (o :: rest) t :=
  .p1 hw hd hdn (.appF hop hs hz hx hdd hb (by rw [evalA_cut (by rw [hop]; simp [Op.operands, Call.operands])]; exact hp) (by rw [evalA_cut (by rw [hop]; simp [Op.operands, Call.operands])]; exact hq) hfit) hk

/-- Conditions that are known. -/
theorem WpA.condT {x y : Code} {op : Operand} (hc : evalA E.G t op = .bool true) (h : WpA E ro n x K t H) : WpA E ro n (.cond op x y) K t H := .cond true hc (fun _ => h) (fun h => (by cases h))
theorem WpA.condF {x y : Code} {op : Operand} (hc : evalA E.G t op = .bool false) (h : WpA E ro n y K t H) : WpA E ro n (.cond op x y) K t H := .cond false hc (fun h => (by cases h)) (fun _ => h)
end
end Go.Gp
