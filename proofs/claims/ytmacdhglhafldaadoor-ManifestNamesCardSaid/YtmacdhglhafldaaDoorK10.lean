/- Part of a proof: GpA24, GpA25, GpA26, GpA27 -/
import Derived.Test.YtmacdhglhafldaaDoorK9
import Derived.Laws.Cover3
import Derived.RangeFuncIn

/- Slices against nil; boxes that are written no more. -/
namespace Go.Gp
open Go.RowKit
set_option linter.unusedVariables false
set_option linter.unusedSimpArgs false

section
variable {E : Env} {ro : Option Nat} {n : Nat} {K : Kont} {t : Slots} {H H' H1 L : List AObj} {ops : Array Oper} {o : Oper} {l rest : List Oper} {d : Nat}

/-- A slice is compared with nil: either way; where it is nil it is empty. -/
theorem WpOps.isNil {ty : Nat} {x : Operand} {yt : TypeId} {e z : Nat} {j : TI} {tg : Tag} {xs : List (List AV)} (hw : wantedA ops t o = some true) (hd : o.dst = some d) (hdn : Nat.blt d n = true) (hop : o.op = .binOp .eql ty x (.const (.slice none 0 0)) yt) (hs : sliceOf E.T ty = some (e, j))
    (hx : evalA E.G t x = .sl tg z xs) (hzx : z = 0 → xs = []) (hk : ∀ b : Bool, (b = true → xs = []) → WpOps E ro n ops rest K ((d, .bool b) :: t) H) : WpOps E ro n ops (o :: rest) K t H := by
  refine ⟨?_⟩
  intro cd c0 c a e1 e2 e3 e4 e5
  have hr := eval_rel e3 e4 x
  rw [hx] at hr
  obtain ⟨hu, hj⟩ := sliceOf_spec hs
  refine wpListIn_of (wanted_eq e4 hw) (fun cc e => by rw [hop] at e; cases e) ?_
  generalize hv : a.eval x = u at hr
  cases hr with
  | sl vs hl hc hz ht hf hr =>
    rename_i ad len cap
    have hrun : (execOp a.eval o).run E.P c.w = .ok (.value (.bool ad.isNone)) c.w := by
      have h1 := run_equal_slice_nil (P := E.P) c.w ty e ad len cap hu
      have h2 : a.eval (.const (.slice none 0 0)) = .slice none 0 0 := rfl
      simp only [execOp, hop, hv, h2, Sem.run_bind]
      rw [eqGuard_plain (by simp) (by simp)]
      simp only [Result.andThen_ok]
      have h3 : (binOp .eql ty (.slice ad len cap) (.slice none 0 0)).run E.P c.w = .ok (.bool ad.isNone) c.w := by
        show (do pure (Value.bool (← Op.equal ty (.slice ad len cap) (.slice none 0 0))) : Sem Value).run E.P c.w = _
        rw [Sem.run_bind, h1]
        rfl
      rw [h3]
      rfl
    rw [hrun, Oper.uponIn_value, hd]
    by_cases hz0 : z = 0
    · exact (hk ad.isNone (fun _ => hzx hz0)).out cd c0 c _ e1 e2 e3 (e4.put hdn .bool) (e5.mono (Ext.refl c) rfl)
    · refine (hk ad.isNone (fun h => ?_)).out cd c0 c _ e1 e2 e3 (e4.put hdn .bool) (e5.mono (Ext.refl c) rfl)
      cases ad with
      | some p => cases h
      | none =>
        rcases Nat.eq_zero_or_pos len with h0 | h0
        · exact List.length_eq_zero_iff.1 (by omega)
        · obtain ⟨ad', g1, _⟩ := hf 0 0 h0 (by omega)
          cases g1
end
end Go.Gp

/- Boxes that are written no more. -/
namespace Go.Gp
open Go.RowKit
set_option linter.unusedVariables false
set_option linter.unusedSimpArgs false

/-- The box is given up: what it holds is frozen. -/
def Cfg.kill (c : Cfg) (id : Nat) : Cfg := { c with H := c.H.set id .dead }

theorem kill_wr {c : Cfg} {id : Nat} {p : Addr} (hid : id < c.H.length) (h : Wr (c.kill id) p) : Wr c p := by
  obtain ⟨k, x, h1, h2, h3⟩ := h
  rcases (set_get hid).1 h1 with ⟨rfl, rfl⟩ | ⟨_, h1⟩
  · exact h3.elim
  · exact ⟨k, x, h1, h2, h3⟩

theorem Ext.kill {c : Cfg} {id : Nat} {cs : List AV} (h : HR c) (hH : c.H[id]? = some (.cells cs)) : Ext c (c.kill id) := by
  have hid := get_lt hH
  exact {
    fz := fun p v _ hf => ⟨hf.1, fun hw => hf.2 (kill_wr hid hw)⟩
    bx := fun k b ⟨x, h1, h2, h3⟩ => by
      by_cases hk : k = id
      · exact ⟨.dead, (set_get hid).2 (.inl ⟨hk, rfl⟩), rfl, h3⟩
      · exact ⟨x, (set_get hid).2 (.inr ⟨hk, h1⟩), h2, h3⟩
    tl := fun k n z hn => by
      have hk : k ≠ id := fun e => by subst e; rw [hH] at hn; cases hn
      exact .inr ⟨n, (set_get hid).2 (.inr ⟨hk, hn⟩), Nat.le_refl _, fun _ => ⟨rfl, fun b arr e hi ha => ⟨arr, ha, rfl⟩⟩⟩
    dd := fun k ⟨x, h1, h2⟩ => by
      by_cases hk : k = id
      · exact ⟨.dead, (set_get hid).2 (.inl ⟨hk, rfl⟩), rfl⟩
      · exact ⟨x, (set_get hid).2 (.inr ⟨hk, h1⟩), h2⟩
    size := Nat.le_refl _
    os := rfl
    tape := rfl
    output := rfl
    hlen := by show _ ≤ (c.H.set id _).length; simp
    outer := fun b hb _ => rfl
    nw := fun k b x hx hl hi hb => by
      rcases (set_get hid).1 hx with ⟨rfl, rfl⟩ | ⟨_, hx⟩
      · cases hl
      · exact ⟨x, hx, hl, hi⟩ }

theorem HR.kill {c : Cfg} {id : Nat} {cs : List AV} (h : HR c) (hH : c.H[id]? = some (.cells cs)) : HR (c.kill id) := by
  have hid := get_lt hH
  exact {
    dom := fun k b hk => by show k < (c.H.set id .dead).length; simp; exact h.dom k b hk
    ex := fun k x hk hbx hlx => by
      rcases (set_get hid).1 hk with ⟨rfl, rfl⟩ | ⟨_, hk⟩
      · cases hlx
      · exact h.ex k x hk hbx hlx
    obj := fun k b x hk hik hlx => by
      rcases (set_get hid).1 hk with ⟨rfl, rfl⟩ | ⟨_, hk⟩
      · cases hlx
      · exact (h.obj k b x hk hik hlx).mono (Ext.kill h hH).toExt0 rfl
    inj := fun i j b x y h1 h2 l1 l2 i1 i2 => by
      rcases (set_get hid).1 h1 with ⟨rfl, rfl⟩ | ⟨_, g1⟩
      · cases l1
      · rcases (set_get hid).1 h2 with ⟨rfl, rfl⟩ | ⟨_, g2⟩
        · cases l2
        · exact h.inj i j b x y g1 g2 l1 l2 i1 i2
    bound := fun k b hk => h.bound k b hk }

/-- A slice over a box that is given up is a frozen slice. -/
theorem RelV.kill {c : Cfg} {m q off z len : Nat} {cs : List AV} {v : Value} (h : HR c) (hH : c.H[m + q]? = some (.cells cs)) (hle : off + len * z ≤ cs.length) (hr : RelV c (.os m q off z len) v) : RelV (c.kill (m + q)) (.sl .no z (chunkA z len (cs.drop off))) v := by
  have hid := get_lt hH
  have hx := Ext.kill h hH
  cases hr with
  | os hb hc =>
    rename_i b cap
    obtain ⟨o', g1, g2, g3⟩ := hb
    obtain ⟨arr, e, vs, h1, h2, h3, h4, h5⟩ := box_cells h hH g3
    have hcl := chunk_length z len (cs.drop off)
    obtain ⟨f1, f2⟩ : (chunkA z len ((cs.drop off).take (len * z))).flatten = (cs.drop off).take (len * z) ∧ ∀ x ∈ chunkA z len ((cs.drop off).take (len * z)), x.length = z :=
      chunk_flatten z len _ (by rw [List.length_take, List.length_drop]; omega)
    have hct : ∀ (m : Nat) (l : List AV), chunkA z m (l.take (m * z)) = chunkA z m l := by
      intro m
      induction m with
      | zero => intro l; rfl
      | succ m ih =>
        intro l
        have hm : (m + 1) * z = z + m * z := by rw [Nat.add_mul]; omega
        simp only [chunkA]
        rw [hm, List.take_take, Nat.min_eq_left (by omega), List.drop_take, Nat.add_sub_cancel_left, ih]
    rw [hct] at f1 f2
    have hvl : vs.length = cs.length := h3.1.symm
    have hdr := (h3.drop off).take (len * z)
    refine .sl (fun i j => (vs[off + (i * z + j)]?).getD undef) hcl hc f2 trivial (fun i j hi hj => ?_) (fun i j l y k1 k2 => ?_)
    · have hlt : i * z + j < len * z := by
        calc i * z + j < i * z + z := by omega
          _ = (i + 1) * z := by rw [Nat.add_mul]; omega
          _ ≤ len * z := Nat.mul_le_mul_right _ hi
      have hv : vs[off + (i * z + j)]? = some (vs[off + (i * z + j)]'(by omega)) := List.getElem?_eq_getElem (by omega)
      refine ⟨⟨b, off, none⟩, rfl, rfl, ?_⟩
      have e2 : (⟨b, off, none⟩ : Addr).add (i * z + j) = ⟨b, off + (i * z + j), none⟩ := by
        unfold Addr.add
        split
        · rename_i h0; rw [h0]; rfl
        · rfl
      rw [e2, hv]
      refine ⟨cell?_of h1 (h4 _ _ hv), ?_⟩
      rintro ⟨k, x, w1, w2, w3⟩
      rcases (set_get hid).1 w1 with ⟨rfl, rfl⟩ | ⟨hne, w1⟩
      · exact w3
      · have hl1 : x.live = true := by cases x <;> first | rfl | exact w3.elim
        exact hne (h.inj k (m + q) b _ _ w1 hH hl1 rfl w2 g3)
    · have k3 := flatten_get f2 k1 k2
      rw [f1, List.getElem?_take] at k3
      split at k3
      · rw [List.getElem?_drop] at k3
        obtain ⟨u, hu, hru⟩ := h3.get k3
        simp only [hu, Option.getD_some]
        exact hru.mono hx.toExt0
      · cases k3

section
variable {E : Env} {ro : Option Nat} {n : Nat} {K : Kont} {t : Slots} {H L : List AObj}

/-- A slot's slice over a box of its own becomes frozen. -/
theorem WpA.freezeS {code : Code} {d j off z len : Nat} {cs : List AV} (hd : look t d = .os H.length j off z len) (hL : L[j]? = some (.cells cs)) (hle : off + len * z ≤ cs.length) (h : WpA E ro n code K ((d, .sl .no z (chunkA z len (cs.drop off))) :: t) (H ++ L.set j .dead)) : WpA E ro n code K t (H ++ L) := by
  refine ⟨?_⟩
  intro cd c0 c a e1 e2 e3 e4 e5
  have hcs : c.H[H.length + j]? = some (.cells cs) := by rw [e2]; exact app_get rfl hL
  have hx := Ext.kill e3.hr hcs
  have hh := e3.hr.kill hcs
  refine h.out cd c0 (c.kill (H.length + j)) a (e1.trans hx) (by show c.H.set _ _ = _; rw [e2, set_app]) (e3.step hx hh) ⟨e4.size, fun i => ?_⟩ (e5.mono hx rfl)
  show RelV _ (bif Nat.beq d i then _ else look t i) _
  cases hb : Nat.beq d i with
  | true =>
    have := Nat.eq_of_beq_eq_true hb
    subst this
    have hr := e4.rel d
    rw [hd] at hr
    exact RelV.kill e3.hr hcs hle hr
  | false => exact (e4.rel i).mono hx.toExt0

/-- .. one that lies in another box of its own. -/
theorem WpA.freezeC {code : Code} {i q j off z len : Nat} {cs ds : List AV} (hI : L[i]? = some (.cells ds)) (hq : ds[q]? = some (.os H.length j off z len)) (hL : L[j]? = some (.cells cs)) (hij : Nat.beq i j = false) (hle : off + len * z ≤ cs.length)
    (h : WpA E ro n code K t (H ++ (L.set j .dead).set i (.cells (ds.set q (.sl .no z (chunkA z len (cs.drop off))))))) : WpA E ro n code K t (H ++ L) := by
  refine ⟨?_⟩
  intro cd c0 c a e1 e2 e3 e4 e5
  have hne : i ≠ j := fun e => by subst e; simp at hij
  have hcs : c.H[H.length + j]? = some (.cells cs) := by rw [e2]; exact app_get rfl hL
  have hds : c.H[H.length + i]? = some (.cells ds) := by rw [e2]; exact app_get rfl hI
  have hx := Ext.kill e3.hr hcs
  have hh := e3.hr.kill hcs
  have hds' : (c.kill (H.length + j)).H[H.length + i]? = some (.cells ds) := (set_get (get_lt hcs)).2 (.inr ⟨by omega, hds⟩)
  obtain ⟨bb, hbb⟩ := e3.hr.ex _ _ hds rfl rfl
  obtain ⟨arr, e, o1, o2, o3⟩ := e3.hr.obj _ bb _ hds hbb rfl
  have hhx : Ext (c.kill (H.length + j)) ((c.kill (H.length + j)).upd (H.length + i) (.cells (ds.set q (.sl .no z (chunkA z len (cs.drop off))))) (c.kill (H.length + j)).w) :=
    Ext.upd (o := .cells ds) hh hds' hbb rfl rfl rfl rfl (fun _ => trivial) (Turned.refl _ _)
  have hhr : HR ((c.kill (H.length + j)).upd (H.length + i) (.cells (ds.set q (.sl .no z (chunkA z len (cs.drop off))))) (c.kill (H.length + j)).w) := by
    refine HR.upd hh hds' hbb rfl hhx (Turned.refl _ _) ⟨arr, e, o1, by simpa using o2, fun k a0 ha => ?_⟩
    rw [List.getElem?_set] at ha
    by_cases hk : q = k
    · subst hk
      rw [if_pos rfl, if_pos (List.getElem?_eq_some_iff.1 hq).1] at ha
      injection ha with ha
      subst ha
      obtain ⟨v, hv, hrv⟩ := o3 q _ hq
      exact ⟨v, hv, (RelV.kill e3.hr hcs hle hrv).mono hhx.toExt0⟩
    · rw [if_neg hk] at ha
      obtain ⟨v, hv, hrv⟩ := o3 k _ ha
      exact ⟨v, hv, (hrv.mono hx.toExt0).mono hhx.toExt0⟩
  have hxx := hx.trans hhx
  refine h.out cd c0 ((c.kill (H.length + j)).upd (H.length + i) (.cells (ds.set q (.sl .no z (chunkA z len (cs.drop off))))) (c.kill (H.length + j)).w) a (e1.trans hxx) ?_ (e3.step hxx hhr) (e4.mono hxx) (e5.mono hxx rfl)
  show (c.H.set (H.length + j) .dead).set (H.length + i) _ = _
  rw [e2, set_app, set_app]
end
end Go.Gp

/- Appends whose outcome is the activation's own to write. -/
namespace Go.Gp
open Go.RowKit
set_option linter.unusedVariables false
set_option linter.unusedSimpArgs false

theorem app_own {E : Env} {c : Cfg} {ty tx e : Nat} {ty0 : TypeId} {j ix : TI} {xs ys : List (List AV)} {v x : Value} (ho : HR c) (hs : sliceOf E.T ty = some (e, j)) (hx : lookT E.T tx = some ix) (hd : ∀ k, ix.d ≠ .int k)
    (hb : 0 < j.bytes) (hr : RelV c (.sl .full j.sz xs) v) (hsrc : SrcOk c j.sz x ys.length ys.flatten) (hyz : ∀ y ∈ ys, y.length = j.sz) (hne : ys ≠ []) (hfit : (xs.length + ys.length) * j.bytes ≤ 140737488355328) {m q : Nat} (hm : m + q = c.H.length) :
    ∃ v' ι' w', (Builtin.append_ #[ty, tx] ty0 #[v, x]).run E.P c.w = .ok v' w' ∧ Ext c ⟨ι', c.H ++ [.cells (xs ++ ys).flatten], w'⟩ ∧ HR ⟨ι', c.H ++ [.cells (xs ++ ys).flatten], w'⟩ ∧
      RelV ⟨ι', c.H ++ [.cells (xs ++ ys).flatten], w'⟩ (.os m q 0 j.sz (xs.length + ys.length)) v' := by
  obtain ⟨hu, hj⟩ := sliceOf_spec hs
  obtain ⟨dx, hux, hdx⟩ := not_int_of hx hd
  obtain ⟨info, hinfo, hi1, hi2, hi3⟩ := ext_info hj
  cases hv : v with
  | slice a len cap =>
    subst hv
    obtain ⟨hl, hz, hc, ht, olds, ho1, ho2, _, ho4⟩ := olds_of hr
    obtain ⟨news, hn1, hn2, hn3, hn4⟩ := hsrc
    have hcap : cap = len := ht
    subst hcap
    have hlen : 0 < ys.length := List.length_pos_iff.2 hne
    obtain ⟨cap', rest, h1, h2, h3, h4⟩ := run_append_out (P := E.P) (w := c.w) (t := ty) (tx := tx) (ty := ty0) (e := e) (z := j.zero) (base := a) (sLen := cap) (sCap := cap) (v := x) (olds := olds) (news := news) hu hux hdx hinfo hi1
      (hn3 _ _) (by rw [hi2]; exact hn4 _ _ rfl) (by rw [hi2]; exact ho4 _ _ rfl) (by omega) (by omega) (by rw [hi3, ← hl]; exact hfit)
    have hdr := ho.drew
    have hrl : RelL c.drew (xs ++ ys).flatten (olds ++ news) := by rw [List.flatten_append]; exact (ho1.append hn1).mono (Ext.drew c).toExt0
    have hx1 := Ext.newObj c.drew (.cells (xs ++ ys).flatten) (.cells (olds ++ news ++ rest).toArray e) hdr
    have hobj : objRel (c.drew.newObj (.cells (xs ++ ys).flatten) (.cells (olds ++ news ++ rest).toArray e)) c.drew.w.heap.size (.cells (xs ++ ys).flatten) := by
      refine ⟨_, e, heap_alloc_eq _ _, by have := hrl.1; simp only [List.size_toArray, List.length_append] at this ⊢; omega, fun i a0 ha => ?_⟩
      obtain ⟨u, hu1, hu2⟩ := hrl.get ha
      exact ⟨u, by rw [List.getElem?_toArray, List.getElem?_append_left (List.getElem?_eq_some_iff.1 hu1).1]; exact hu1, hu2.mono hx1.toExt0⟩
    have hh := HR.newObj hdr hobj
    refine ⟨_, _, _, h4, (Ext.drew c).trans hx1, hh, ?_⟩
    rw [hl]
    refine .os ?_ h1
    exact ⟨_, newObj_get.2 (.inr ⟨hm, rfl⟩), rfl, (newObj_ι hdr).2 (.inr ⟨hm, rfl⟩)⟩
  | _ => subst hv; cases hr

section
variable {E : Env} {ro : Option Nat} {n : Nat} {K : Kont} {t : Slots} {H L : List AObj} {ops : Array Oper} {o : Oper} {rest : List Oper} {d : Nat}

theorem P1.appO {ty tx e z : Nat} {j ix : TI} {p q : Operand} {z0 : Nat} {ys : List (List AV)}
    (hop : o.op = .call { callee := .builtin .append, args := ⟨[p, q]⟩, argTypes := ⟨[ty, tx]⟩ }) (hs : sliceOf E.T ty = some (e, j)) (hz : j.sz = z) (hx : lookT E.T tx = some ix) (hd : ∀ k, ix.d ≠ .int k)
    (hb : Nat.blt 0 j.bytes = true) (hp : evalA E.G t p = .sl .full z0 []) (hq : srcA z (evalA E.G t q) = some ys) (hne : ys ≠ []) (hfit : ys.length * j.bytes ≤ 140737488355328) :
    P1 E n (H ++ L) (H ++ (L ++ [.cells ys.flatten])) o t (.os H.length L.length 0 z ys.length) :=
  ⟨fun cc e => (by rw [hop] at e; cases e), fun c a hH ho sr => by
    subst hz
    have hpr := eval_rel ho sr p
    rw [hp] at hpr
    have hpr' := Sub.full (z' := j.sz) c _ hpr
    have hqr := eval_rel ho sr q
    obtain ⟨s1, s2⟩ := srcA_ok hq hqr
    obtain ⟨v', ι', w', h1, h2, h3, h4⟩ := app_own (ty0 := o.type) (m := H.length) (q := L.length) ho.hr hs hx hd (by simpa using hb) hpr' s1 s2 hne (by simpa using hfit) (by rw [hH]; simp)
    rw [hH, List.append_assoc] at h2 h3 h4
    simp only [List.nil_append, List.length_nil, Nat.zero_add] at h2 h3 h4
    refine ⟨v', ι', w', ?_, h2, h3, h4⟩
    simp [execOp, hop, resolve, invoke, builtin, h1]⟩
end

theorem Sub.os {m q m' q' off z len : Nat} (h : m + q = m' + q') : Sub (.os m q off z len) (.os m' q' off z len) := fun c x hx => by
  cases hx with
  | os hb hc => exact .os (by rw [← h]; exact hb) hc
theorem Sub.ptr {m q m' q' off : Nat} (h : m + q = m' + q') : Sub (.ptr m q off) (.ptr m' q' off) := fun c x hx => by
  cases hx with
  | ptr hb => exact .ptr (by rw [← h]; exact hb)

/-- An end that leaves all in sight. -/
theorem retK.all {E : Env} {rs : List ResultVar} {H L : List AObj} {R : AEnd → List AObj → Prop} {t : Slots} {x : AX} {as : List AV} {r : AV} (hx : x = .normal ∨ x = .ret) (h : resL L E.T t rs = some as)
    (hn : resN H.length t rs = rs.map (fun _ => H.length)) (hs : Sub (resV as) r) (hR : R (.ret r) (H ++ L)) : retK E rs H R x t (H ++ L) := by
  have h' : ∃ H2 L' as v, H ++ L = H2 ++ L' ∧ H2.length = H.length ∧ resL L' E.T t rs = some as ∧ resN H.length t rs = rs.map (fun _ => H.length) ∧ (∀ c x, RelV c (resV as) x → RelV c v x) ∧ RetR H R (.ret v) v (H ++ L) :=
    ⟨H, L, as, r, rfl, rfl, h, hn, hs, .all hR⟩
  rcases hx with rfl | rfl <;> exact h'
end Go.Gp

/- Function values that are called; loops over iterators. -/
namespace Go.Gp
open Go.RowKit
set_option linter.unusedVariables false
set_option linter.unusedSimpArgs false

theorem thenK.panic {K1 : Slots → List AObj → Prop} {K : Kont} {v : AV} {t : Slots} {H : List AObj} (h : K (.panic v) t H) : thenK K1 K (.panic v) t H := h
theorem blockK.panic {id : Nat} {K : Kont} {v : AV} {t : Slots} {H : List AObj} (h : K (.panic v) t H) : blockK id K (.panic v) t H := h

/-- Calling a function value. -/
def callVal (v : Value) (args : Array Value) : Sem Next := do
  let d ← Deferred.ofValue v args
  invoke d.target d.args

def UponV (P : Program) (Q : Ending → World → Prop) : Result Next → Prop
  | .ok (.enter f args) w => Calls P f args w Q
  | .ok (.value v) w => Q (.returned v) w
  | .ok (.round l f tmps assign body) w => RoundIn Fence.wide 0 P l f tmps assign body w Q
  | _ => False

/-- A function value, called with such arguments over such a heap, ends so. -/
structure AppA (E : Env) (fv : AV) (args : List AV) (H : List AObj) (R : AEnd → List AObj → Prop) : Prop where
  out : ∀ (c : Cfg) (v : Value) (vs : List Value), c.H = H → Ok E.G c → RelV c fv v → RelL c args vs → UponV E.P (PostC E.G c R) ((callVal v vs.toArray).run E.P c.w)

theorem PostC.mono {G : GEnv} {c : Cfg} {R R' : AEnd → List AObj → Prop} (hr : ∀ x H, R x H → R' x H) {e : Ending} {w : World} (h : PostC G c R e w) : PostC G c R' e w := by
  obtain ⟨ι, H, x, a1, a2, a3, a4⟩ := h
  exact ⟨ι, H, x, a1, a2, a3, hr x H a4⟩

theorem AppA.mono {E : Env} {fv : AV} {args : List AV} {H : List AObj} {R R' : AEnd → List AObj → Prop} (h : AppA E fv args H R) (hr : ∀ x H, R x H → R' x H) : AppA E fv args H R' := by
  refine ⟨?_⟩
  intro c v vs e1 e2 e3 e4
  have h' := h.out c v vs e1 e2 e3 e4
  unfold UponV at *
  split at h'
  · exact h'.mono fun e w => PostC.mono hr
  · exact PostC.mono hr h'
  · exact h'.mono fun e w => PostC.mono hr
  · exact h'.elim

theorem AppA.of_calls {E : Env} {g : FuncId} {caps args : List AV} {H : List AObj} {R : AEnd → List AObj → Prop} (h : CallsA E g (args ++ caps) H R) : AppA E (.func g caps) args H R := by
  refine ⟨?_⟩
  intro c v vs e1 e2 e3 e4
  cases e3 with
  | func ws hl hr =>
    have h' := h.out c (vs ++ ws) e1 e2 (e4.append ⟨hl, hr⟩)
    have hrun : (callVal (.func (.func g) #[] ws.toArray) vs.toArray).run E.P c.w = (callFunc g (vs ++ ws).toArray).run E.P c.w := by
      simp [callVal, Deferred.ofValue, invoke]
    rw [hrun]
    unfold UponC at h'
    unfold UponV
    split at h'
    · rename_i h2; rw [h2]; exact h'
    · rename_i h2; rw [h2]; exact h'
    · exact h'.elim

theorem Fc_rounds {ro : Option Nat} {P : Program} {l : Nat} {f : FuncId} {tmps : Array Value} {assign body : Code} {w : World} {R : Ending → World → Prop} :
    RoundIn (Fc ro) 0 P l f tmps assign body w R ↔ RoundIn Fence.wide 0 P l f tmps assign body w R := by
  cases ro with
  | none => exact Iff.rfl
  | some k => exact Iff.rfl

section rules
variable {E : Env} {ro : Option Nat} {n : Nat} {K : Kont} {t : Slots} {H L : List AObj} {ops : Array Oper} {o : Oper} {rest : List Oper}

/-- A call of a function value. -/
theorem WpOps.callV {d : Nat} {fv : AV} {f : Operand} {xs : List Operand} {ats : Array TypeId} {R : AEnd → List AObj → Prop}
    (hw : wantedA ops t o = some true) (hd : o.dst = some d) (hdn : Nat.blt d n = true) (hop : o.op = .call { callee := .value f, args := ⟨xs⟩, argTypes := ats }) (hf : evalA E.G t f = fv)
    (hc : AppA E fv (evalL E.G t xs) H R)
    (hk : ∀ x H', R x H' → match x with | .ret r => WpOps E ro n ops rest K ((d, r) :: t) H' | .panic v => K (.panic v) t H') : WpOps E ro n ops (o :: rest) K t H := by
  refine ⟨?_⟩
  intro cd c0 c a e1 e2 e3 e4 e5
  have hnd : notDefer o := fun cc e => by rw [hop] at e; cases e
  have hfr := eval_rel e3 e4 f
  rw [hf] at hfr
  have hargs := evalL_rel e3 e4 xs
  have hcall := hc.out c _ _ e2 e3 hfr hargs
  have hrun : (execOp a.eval o).run E.P c.w = (callVal (a.eval f) (xs.map a.eval).toArray).run E.P c.w := by
    simp [execOp, hop, resolve, callVal]
  refine wpListIn_of (wanted_eq e4 hw) hnd ?_
  rw [hrun]
  have hpost : ∀ (e : Ending) (w' : World), PostC E.G c R e w' → (match e, w' with
      | .returned v, w'' => (wpListIn (Fc ro) 0 E.P ops (Post E.G n (cd, E.marks) c0 K) rest) (a.put o.dst v) w''
      | .panicked chain, w'' => (Post E.G n (cd, E.marks) c0 K) (.panic chain) a w''
      | .outgrown, _ => LetsOut (Post E.G n (cd, E.marks) c0 K)) := by
    rintro e w' ⟨ι', H', x, a1, a2, a3, a4⟩
    cases e with
    | returned v' =>
      cases x with
      | panic v => exact a3.elim
      | ret r =>
        show wpListIn _ _ _ _ _ _ (a.put o.dst v') w'
        rw [hd]
        exact (hk _ _ a4).out cd c0 ⟨ι', H', w'⟩ _ (e1.trans a1) rfl a2 ((e4.mono a1).put hdn a3) (e5.mono a1 rfl)
    | panicked chain =>
      cases x with
      | ret r => exact a3.elim
      | panic v =>
        have := hk _ _ a4
        exact ⟨ι', H', t, .panic v, e1.trans a1, a2, e4.mono a1, e5.mono a1 rfl, a3, this⟩
    | outgrown => cases x <;> exact a3.elim
  revert hcall
  cases (callVal (a.eval f) (xs.map a.eval).toArray).run E.P c.w with
  | halt x w => intro h; exact h.elim
  | ok nx w =>
    cases nx <;> intro hcall <;> try exact hcall.elim
    case value v' =>
      rw [Oper.uponIn_value]
      exact hpost (.returned v') w hcall
    case enter f' args' =>
      rw [Oper.uponIn_enter]
      refine ⟨fun h => (by rw [Fc_depth] at h; simp at h), ?_⟩
      rw [Fc_calls]
      exact Calls.mono hcall hpost
    case round l f' tmps assign body =>
      rw [Oper.uponIn_round]
      refine ⟨fun h => (by rw [Fc_depth] at h; simp at h), ?_⟩
      exact (Fc_rounds.2 hcall).mono hpost
end rules

/-! ### One round -/
def putPs : List Tmp → List AV → Slots → Slots
  | p :: ps, a :: as, t => putPs ps as ((p, a) :: t)
  | _, _, t => t

theorem SR.putPs {c : Cfg} {n : Nat} : ∀ {ps : List Tmp} {as : List AV} {vs : List Value} {t : Slots} {a : Act}, SR c n t a → (∀ p ∈ ps, p < n) → ps.length = as.length → RelL c as vs →
    SR c n (putPs ps as t) { a with tmps := (ps.zip vs).foldl (fun tm (x : Tmp × Value) => tm.setIfInBounds x.1 x.2) a.tmps }
  | [], as, vs, t, a, s, _, _, _ => by simpa [Gp.putPs] using s
  | p :: ps, [], vs, t, a, s, _, hl, _ => by simp at hl
  | p :: ps, x :: as, [], t, a, s, _, _, hr => by have := hr.1; simp at this
  | p :: ps, x :: as, v :: vs, t, a, s, hp, hl, hr => by
    have h1 : SR c n ((p, x) :: t) (a.put (some p) v) := s.put (by simpa using hp p List.mem_cons_self) hr.head
    have := SR.putPs (ps := ps) h1 (fun q hq => hp q (List.mem_cons_of_mem _ hq)) (by simpa using hl) hr.tail
    simpa [Gp.putPs, Act.put] using this

/-- The heap behind a round, but for the record. -/
def roundK (id : Nat) (r : Loop) (ts : Slots) (Hx : List AObj) (R : AEnd → List AObj → Prop) : Kont := fun x t2 H2 =>
  ∃ (st : LoopState) (pend : Option Code) (H1 L : List AObj), H2 = H1 ++ L ∧ H1.length = Hx.length ∧ H1[id]? = some (.loop { r with state := .busy } ts) ∧
    (∀ (i : Nat) o, i ≠ id → H1[i]? = some o → Hx[i]? = some o ∨ OBd Hx.length o) ∧
    (match x with
      | .normal => pend = none ∧ st = .ready ∧ R (.ret (.bool true)) (H1.set id (.loop { r with state := st, pending := pend } ts))
      | .ret => pend = some .ret ∧ st = .done ∧ R (.ret (.bool false)) (H1.set id (.loop { r with state := st, pending := pend } ts))
      | .exit i => pend = some (.exit i) ∧ st = .done ∧ R (.ret (.bool false)) (H1.set id (.loop { r with state := st, pending := pend } ts))
      | .panic _ => False)

theorem run_getLoop {P : Program} {w : World} {l : Nat} {r : Loop} (h : w.heap[l]? = some (.loop r)) : (Instr.getLoop l).run P w = .ok r w := by
  simp [Instr.getLoop, getObj, Sem.run_bind, Sem.run, h, Result.andThen]

theorem run_endRound {P : Program} {w : World} {l : Nat} {r : Loop} (h : w.heap[l]? = some (.loop r)) (j : Option Code) :
    (Instr.endRound l j).run P w = .ok (.bool j.isNone) { w with heap := w.heap.setIfInBounds l (.loop { r with state := if j.isNone then .ready else .done, pending := j }) } := by
  simp [Instr.endRound, Instr.getLoop, getObj, setObj, Sem.run_bind, Sem.run, h, Result.andThen]

theorem run_beginRound {P : Program} {w : World} {l : Nat} {r : Loop} (h : w.heap[l]? = some (.loop r)) (hr : r.state = .ready) :
    (Instr.beginRound l).run P w = .ok () { w with heap := w.heap.setIfInBounds l (.loop { r with state := .busy }) } := by
  simp [Instr.beginRound, Instr.getLoop, getObj, setObj, Sem.run_bind, Sem.run, h, Result.andThen, hr]

theorem turned_setObj (w : World) (b : Nat) (o : Obj) : Turned w { w with heap := w.heap.setIfInBounds b o } b :=
  ⟨rfl, rfl, rfl, by simp, fun k hk => by simp [Array.getElem?_setIfInBounds, Ne.symm hk]⟩

/-- A record is turned. -/
theorem loop_upd {c : Cfg} (h : HR c) {id l : Nat} {r r' : Loop} {ts : Slots} (hH : c.H[id]? = some (.loop r ts)) (hi : c.ι id = some l) (hr : r'.tmps = r.tmps) :
    Ext c (c.upd id (.loop r' ts) { c.w with heap := c.w.heap.setIfInBounds l (.loop r') }) ∧ HR (c.upd id (.loop r' ts) { c.w with heap := c.w.heap.setIfInBounds l (.loop r') }) := by
  have hx := Ext.upd (o' := .loop r' ts) h hH hi rfl rfl rfl rfl (fun _ => trivial) (turned_setObj c.w l (.loop r'))
  obtain ⟨h1, h2⟩ := h.obj id l _ hH hi rfl
  refine ⟨hx, HR.upd h hH hi rfl hx (turned_setObj _ _ _) ⟨?_, fun i => ?_⟩⟩
  · show (c.w.heap.setIfInBounds l (.loop r'))[l]? = _
    rw [Array.getElem?_setIfInBounds, if_pos rfl, if_pos (block_lt h1)]
  · rw [hr]; exact (h2 i).mono hx.toExt0

theorem AppA.round {E : Env} {m j : Nat} {r : Loop} {ts : Slots} {args : List AV} {Hx : List AObj} {R : AEnd → List AObj → Prop} {n : Nat} (ps : List Tmp)
    (hrec : Hx[m + j]? = some (.loop r ts)) (hst : r.state = .ready) (hn : r.tmps.size = n) (hps : r.params = ps.toArray) (hpl : ps.length = args.length) (hpn : ∀ p ∈ ps, p < n)
    (h : ∀ l, WpA E (some l) n r.assign (fun x t1 H1 => x = .normal ∧ H1[m + j]? = some (.loop r ts) ∧
      WpA E (some l) n r.body (roundK (m + j) r ts Hx R) t1 (H1.set (m + j) (.loop { r with state := .busy } ts))) (putPs ps args ts) Hx) : AppA E (.yld m j) args Hx R := by
  refine ⟨?_⟩
  intro c v vs e1 e2 e3 e4
  cases e3 with
  | yld hb =>
    rename_i l
    obtain ⟨o, ho, hbx, hι⟩ := hb
    have ho' : c.H[m + j]? = some (.loop r ts) := by rw [e1]; exact hrec
    obtain ⟨h1, h2⟩ := e2.hr.obj _ l _ ho' hι rfl
    have hlen : vs.length = ps.length := by rw [hpl, e4.1]
    have hrun : (callVal (.func (.yield l) #[] #[]) vs.toArray).run E.P c.w = .ok (.round l r.fn ((ps.zip vs).foldl (fun tm (x : Tmp × Value) => tm.setIfInBounds x.1 x.2) r.tmps) r.assign r.body) c.w := by
      simp only [callVal, Deferred.ofValue, invoke, Sem.run_bind, Sem.run_pure, Result.andThen_ok]
      simp only [Instr.yield, Sem.run_bind, Array.empty_append]
      rw [run_getLoop h1]
      simp only [Result.andThen_ok, hps]
      rw [if_neg (by simp [hlen])]
      simp only [Sem.run_pure, Sem.run_bind, Result.andThen_ok]
      have : (ps.toArray.zip vs.toArray) = (ps.zip vs).toArray := by simp
      rw [this]
      simp
    rw [hrun]
    show RoundIn Fence.wide 0 E.P l r.fn _ r.assign r.body c.w (PostC E.G c R)
    refine roundIn_of_wpIn trivial ?_
    have hsr : SR c n (putPs ps args ts) { tmps := (ps.zip vs).foldl (fun tm (x : Tmp × Value) => tm.setIfInBounds x.1 x.2) r.tmps, defers := [] } :=
      SR.putPs (a := { tmps := r.tmps, defers := [] }) ⟨hn, h2⟩ hpn hpl e4
    refine wpIn_mono ((h l).out (c, []) c c _ (Ext.refl c) e1 e2 hsr ⟨[], rfl, fun _ => rfl, List.nodup_nil, Nat.le_refl _, by simp⟩) ?_
    rintro e a1 w1 ⟨ι1, H1, t1, x1, k1, k2, k3, k4, k5, k6, k7, k8⟩
    subst k6
    cases e <;> try exact k5.elim
    have hι1 : ι1 (m + j) = some l := (k1.bx (m + j) l ⟨_, ho, hbx, hι⟩).choose_spec.2.2
    obtain ⟨h3, h4⟩ := k2.hr.obj (m + j) l _ k7 hι1 rfl
    refine ⟨_, run_beginRound h3 hst, ?_⟩
    obtain ⟨g1, g2⟩ := loop_upd (c := ⟨ι1, H1, w1⟩) (r' := { r with state := .busy }) k2.hr k7 hι1 rfl
    refine wpIn_mono (k8.out (c, []) c (Cfg.upd ⟨ι1, H1, w1⟩ (m + j) (.loop { r with state := .busy } ts) _) a1 (k1.trans g1) rfl (k2.step g1 g2) (k3.mono g1) (k4.mono g1 rfl)) ?_
    rintro e a2 w2 ⟨ι2, H2, t2, x2, q1, q2, q3, q4, q5, st, pend, G1, L, q6, q7, q8, q9, q10⟩
    subst q6
    have hlt : m + j < G1.length := get_lt q8
    have q8' : (G1 ++ L)[m + j]? = some (.loop { r with state := .busy } ts) := by rw [List.getElem?_append_left hlt]; exact q8
    have hι2 : ι2 (m + j) = some l := (q1.bx (m + j) l ⟨_, ho, hbx, hι⟩).choose_spec.2.2
    obtain ⟨h5, h6⟩ := q2.hr.obj (m + j) l _ q8' hι2 rfl
    have fin : ∀ (jmp : Option Code) (b : Bool), jmp.isNone = b → pend = jmp → st = (if jmp.isNone then .ready else .done) → R (.ret (.bool b)) (G1.set (m + j) (.loop { r with state := st, pending := pend } ts)) →
        ∃ v w', (Instr.endRound l jmp).run E.P w2 = .ok v w' ∧ PostC E.G c R (.returned v) w' := by
      rintro jmp b hb rfl rfl hR
      refine ⟨_, _, run_endRound h5 _, ?_⟩
      obtain ⟨u1, u2⟩ := loop_upd (c := ⟨ι2, G1 ++ L, w2⟩) (r' := { r with state := if pend.isNone then .ready else .done, pending := pend }) q2.hr q8' hι2 rfl
      have hx := q1.trans u1
      refine RetR.use hx e2 (q2.step u1 u2) (e := .ret (.bool b)) (v := .bool b) ?_ (fun c'' _ => by rw [hb]; exact RelV.bool)
      subst e1
      refine .cut (G1.set (m + j) (.loop { r with state := if pend.isNone then .ready else .done, pending := pend } ts)) L ?_ (by simpa using q7) ?_ .bool hR
      · show (G1 ++ L).set _ _ = _
        rw [List.set_append_left _ _ hlt]
      · intro i o hi
        by_cases hij : i = m + j
        · subst hij
          rw [List.getElem?_set_self hlt] at hi
          injection hi with hi
          subst hi
          have := (e2.hr.obd hrec).2.2.1 r ts rfl
          exact .inr ⟨fun cs e => (by cases e), fun es k e => (by cases e), fun r' t' e k => (by injection e with _ e; subst e; exact this k), fun _ _ _ _ _ e => (by cases e)⟩
        · rw [List.getElem?_set_ne (fun e => hij e.symm)] at hi
          exact q9 i o hij hi
    cases x2 with
    | normal =>
      cases e <;> try exact q5.elim
      exact fin none true rfl q10.1 q10.2.1 q10.2.2
    | ret =>
      cases e <;> try exact q5.elim
      exact fin (some .ret) false rfl q10.1 q10.2.1 q10.2.2
    | exit i =>
      cases e <;> try exact q5.elim
      have : i = _ := q5
      subst this
      exact fin (some (.exit i)) false rfl q10.1 q10.2.1 q10.2.2
    | panic v => exact q10.elim

end Go.Gp
