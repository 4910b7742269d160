/- Part of a proof: GpA44, GpA50, GpA51, GpA52, GpA53, GpA54 -/
import Derived.Test.YtlmjiblfmhaicaaGreatDoorK9
import Derived.Test.YtlmjiblfmhaicaaGreatDoorK12
import Derived.Laws.MakeOwn

set_option linter.unusedSectionVars false

/- Slices from a place in an array; bytes copied; slices made of noughts. -/
namespace Go.Gp
open Go.RowKit
set_option linter.unusedVariables false
set_option linter.unusedSimpArgs false

section
variable {E : Env} {ro : Option Nat} {n : Nat} {K : Kont} {t : Slots} {H H' H1 L X : List AObj} {ops : Array Oper} {o : Oper} {l rest : List Oper} {d : Nat} {av : AV}

theorem WpOps.u1h (H2 : List AObj) (hw : wantedA ops t o = some true) (hd : o.dst = none) (h : U1 E n H H1 o t) (he : H1 = H2) (hk : WpOps E ro n ops rest K t H2) : WpOps E ro n ops (o :: rest) K t H := by subst he; exact .u1 hw hd h hk

end
end Go.Gp





/- A statement and what follows it, apart. -/
namespace Go.Gp
set_option linter.unusedVariables false
theorem WpA.cutS {E : Env} {ro : Option Nat} {n : Nat} {K : Kont} {t : Slots} {H : List AObj} {code rest : Code} (T : Slots) (H1 : List AObj)
    (h : WpA E ro n code (fun x t' H' => x = .normal ∧ Agree T t' ∧ H' = H1) t H) (hrest : WpA E ro n rest K T H1) : WpA E ro n (.seq code rest) K t H := by
  refine WpA.seq (h.mono fun x t' H' h => ?_)
  obtain ⟨e1, e2, e3⟩ := h
  subst e1; subst e3
  exact hrest.weak e2
end Go.Gp

/- Own rows whose room is known: parts of them, and appends in place or to a new place. -/
namespace Go.Gp
open Go.RowKit
set_option linter.unusedVariables false
set_option linter.unusedSimpArgs false
/-- Less is said: an own row without its room. -/
theorem Sub.ov {m q off z len : Nat} : Sub (.ov m q off z len) (.os m q off z len) := fun c x hx => by
  cases hx with
  | ov hb hc _ => exact .os hb hc

/-- The box's block becomes a new box; the old one is given up. -/
def Cfg.over (c : Cfg) (id b : Nat) (cs : List AV) (w' : World) : Cfg := { ι := fun k => if k = c.H.length then some b else c.ι k, H := c.H.set id .dead ++ [.cells cs], w := w' }
theorem over_get {c : Cfg} {id b k : Nat} {cs : List AV} {w' : World} {o : AObj} : (c.over id b cs w').H[k]? = some o ↔ (k < c.H.length ∧ (c.H.set id .dead)[k]? = some o) ∨ (k = c.H.length ∧ o = .cells cs) := by
  show (c.H.set id .dead ++ [AObj.cells cs])[k]? = some o ↔ _
  rcases Nat.lt_trichotomy k c.H.length with h | h | h
  · rw [List.getElem?_append_left (by simpa using h)]
    constructor
    · intro g; exact .inl ⟨h, g⟩
    · rintro (⟨_, g⟩ | ⟨g, _⟩)
      · exact g
      · omega
  · subst h
    rw [List.getElem?_append_right (by simp), List.length_set, Nat.sub_self]
    constructor
    · intro g; refine .inr ⟨rfl, ?_⟩; simpa using g.symm
    · rintro (⟨g, _⟩ | ⟨_, g⟩)
      · omega
      · rw [g]; rfl
  · rw [List.getElem?_eq_none (by simp; omega)]
    constructor
    · intro g; cases g
    · rintro (⟨g, _⟩ | ⟨g, _⟩) <;> omega
theorem over_ι {c : Cfg} {id b k b' : Nat} {cs : List AV} {w' : World} : (c.over id b cs w').ι k = some b' ↔ (k = c.H.length ∧ b' = b) ∨ (k ≠ c.H.length ∧ c.ι k = some b') := by
  show (if k = c.H.length then some b else c.ι k) = some b' ↔ _
  by_cases hk : k = c.H.length
  · rw [if_pos hk]
    constructor
    · intro h; injection h with h; exact .inl ⟨hk, h.symm⟩
    · rintro (⟨_, h⟩ | ⟨h, _⟩)
      · rw [h]
      · exact absurd hk h
  · rw [if_neg hk]
    constructor
    · intro h; exact .inr ⟨hk, h⟩
    · rintro (⟨h, _⟩ | ⟨_, h⟩)
      · exact absurd h hk
      · exact h
/-- An object of the new heap that is not the new box is one of the old ones. -/
theorem over_old {c : Cfg} {id b k : Nat} {cs : List AV} {w' : World} {o : AObj} (hid : id < c.H.length) (hk : k < c.H.length) (h : (c.over id b cs w').H[k]? = some o) : (k = id ∧ o = .dead) ∨ (k ≠ id ∧ c.H[k]? = some o) := by
  rcases over_get.1 h with ⟨_, h⟩ | ⟨h, _⟩
  · exact (set_get hid).1 h
  · omega

theorem Ext.over {c : Cfg} {id b : Nat} {cs0 cs : List AV} {w' : World} (h : HR c) (hH : c.H[id]? = some (.cells cs0)) (hi : c.ι id = some b) (ht : Turned c.w w' b) : Ext c (c.over id b cs w') := by
  have hid := get_lt hH
  have lift : ∀ (k : Nat) o, k ≠ id → c.H[k]? = some o → (c.over id b cs w').H[k]? = some o := fun k o hk ho => over_get.2 (.inl ⟨get_lt ho, (set_get hid).2 (.inr ⟨hk, ho⟩)⟩)
  have liftι : ∀ (k : Nat) b', k < c.H.length → c.ι k = some b' → (c.over id b cs w').ι k = some b' := fun k b' hk hb => over_ι.2 (.inr ⟨by omega, hb⟩)
  have hdead : (c.over id b cs w').H[id]? = some .dead := over_get.2 (.inl ⟨hid, (set_get hid).2 (.inl ⟨rfl, rfl⟩)⟩)
  exact {
    fz := fun p v _ hf => by
      have hne : p.block ≠ b := fun e => hf.2 ⟨id, _, hH, by rw [e]; exact hi, trivial⟩
      refine ⟨?_, ?_⟩
      · have h1 := hf.1
        unfold World.cell? at h1 ⊢
        show (match w'.heap[p.block]? with | some (.cells c _ _) => if p.spot.isSome then none else c[p.off]? | _ => none) = _
        rw [ht.other _ hne]
        exact h1
      · rintro ⟨k, x, h1, h2, h3⟩
        rcases over_ι.1 h2 with ⟨_, h2⟩ | ⟨hn, h2⟩
        · exact hne h2
        · rcases over_get.1 h1 with ⟨hk, _⟩ | ⟨hk, _⟩
          · rcases over_old hid hk h1 with ⟨_, rfl⟩ | ⟨_, h1⟩
            · exact h3.elim
            · exact hf.2 ⟨k, x, h1, h2, h3⟩
          · exact hn hk
    bx := fun k b1 ⟨x, h1, h2, h3⟩ => by
      have hk := get_lt h1
      by_cases e : k = id
      · subst e; exact ⟨.dead, hdead, rfl, liftι _ _ hk h3⟩
      · exact ⟨x, lift k x e h1, h2, liftι _ _ hk h3⟩
    tl := fun k n z hn => by
      have hk : k ≠ id := fun e => by subst e; rw [hH] at hn; cases hn
      have hkl := get_lt hn
      refine .inr ⟨n, lift _ _ hk hn, Nat.le_refl _, fun _ => ⟨?_, fun b1 arr e h1 h2 => ⟨arr, ?_, rfl⟩⟩⟩
      · show (if k = c.H.length then some b else c.ι k) = c.ι k
        rw [if_neg (by omega)]
      · have : b1 ≠ b := fun e => by subst e; exact hk (h.inj k id b1 _ _ hn hH rfl rfl h1 hi)
        exact (ht.other _ this).trans h2
    sz := fun k b' n _ hn => (by
      by_cases e : b' = b
      · subst e; exact ht.room n hn
      · obtain ⟨arr, et, fr, g1, g2⟩ := hn
        exact ⟨arr, et, fr, (ht.other _ e).trans g1, g2⟩)
    dd := fun k ⟨x, h1, h2⟩ => by
      by_cases hk : k = id
      · subst hk; exact ⟨.dead, hdead, rfl⟩
      · exact ⟨x, lift k x hk h1, h2⟩
    size := by show _ ≤ w'.heap.size; rw [ht.size]; exact Nat.le_refl _
    os := ht.os
    tape := ht.tape
    output := ht.output
    hlen := by show _ ≤ (c.H.set id .dead ++ [AObj.cells cs]).length; simp
    outer := fun k hk hno => ht.other k (fun e => by subst e; exact hno id _ hH rfl hi)
    nw := fun k b1 x hx hlx hix hb1 => by
      rcases over_ι.1 hix with ⟨_, rfl⟩ | ⟨hn, h2⟩
      · exact ⟨id, _, hH, rfl, hi⟩
      · rcases over_get.1 hx with ⟨hk, _⟩ | ⟨hk, _⟩
        · rcases over_old hid hk hx with ⟨_, rfl⟩ | ⟨_, h1⟩
          · cases hlx
          · exact ⟨k, x, h1, hlx, h2⟩
        · exact absurd hk hn }

theorem HR.over {c : Cfg} {id b : Nat} {cs0 cs : List AV} {w' : World} (h : HR c) (hH : c.H[id]? = some (.cells cs0)) (hi : c.ι id = some b) (ht : Turned c.w w' b) (ho : objRel (c.over id b cs w') b (.cells cs)) : HR (c.over id b cs w') := by
  have hid := get_lt hH
  have hx := Ext.over (cs := cs) h hH hi ht
  have old : ∀ (k b1 : Nat) x, (c.over id b cs w').H[k]? = some x → x.live = true → (c.over id b cs w').ι k = some b1 → (k = c.H.length ∧ b1 = b ∧ x = AObj.cells cs) ∨ (k ≠ id ∧ k < c.H.length ∧ c.H[k]? = some x ∧ c.ι k = some b1) := fun k b1 x h1 hl h2 => by
    rcases over_get.1 h1 with ⟨hk, _⟩ | ⟨hk, hxc⟩
    · rcases over_old hid hk h1 with ⟨_, rfl⟩ | ⟨hne, h1⟩
      · cases hl
      · rcases over_ι.1 h2 with ⟨e, _⟩ | ⟨_, h2⟩
        · omega
        · exact .inr ⟨hne, hk, h1, h2⟩
    · rcases over_ι.1 h2 with ⟨_, h2⟩ | ⟨hn, _⟩
      · exact .inl ⟨hk, h2, hxc⟩
      · exact absurd hk hn
  exact {
    dom := fun k b1 hk => by
      show k < (c.H.set id .dead ++ [AObj.cells cs]).length
      rw [List.length_append, List.length_set]
      rcases over_ι.1 hk with ⟨rfl, _⟩ | ⟨_, h2⟩
      · simp
      · have := h.dom k b1 h2; simp; omega
    ex := fun k x hk hbx hlx => by
      rcases over_get.1 hk with ⟨hkl, _⟩ | ⟨hkl, _⟩
      · rcases over_old hid hkl hk with ⟨_, rfl⟩ | ⟨_, h1⟩
        · cases hlx
        · obtain ⟨b1, hb1⟩ := h.ex k x h1 hbx hlx
          exact ⟨b1, over_ι.2 (.inr ⟨by omega, hb1⟩)⟩
      · exact ⟨b, over_ι.2 (.inl ⟨hkl, rfl⟩)⟩
    obj := fun k b1 x hk hik hlx => by
      rcases old k b1 x hk hlx hik with ⟨_, rfl, rfl⟩ | ⟨hne, hkl, h1, h2⟩
      · exact ho
      · have hb1 : b1 ≠ b := fun e => by subst e; exact hne (h.inj k id b1 _ _ h1 hH hlx rfl h2 hi)
        exact (h.obj k b1 x h1 h2 hlx).mono hx.toExt0 (ht.other _ hb1)
    inj := fun i j b1 x y h1 h2 l1 l2 i1 i2 => by
      rcases old i b1 x h1 l1 i1 with ⟨e1, rfl, _⟩ | ⟨n1, _, g1, k1⟩
      · rcases old j b1 y h2 l2 i2 with ⟨e2, _, _⟩ | ⟨n2, _, g2, k2⟩
        · rw [e1, e2]
        · exact absurd (h.inj j id b1 _ _ g2 hH l2 rfl k2 hi) n2
      · rcases old j b1 y h2 l2 i2 with ⟨e2, rfl, _⟩ | ⟨n2, _, g2, k2⟩
        · exact absurd (h.inj i id b1 _ _ g1 hH l1 rfl k1 hi) n1
        · exact h.inj i j b1 _ _ g1 g2 l1 l2 k1 k2
    bound := fun k b1 hk => by
      show b1 < w'.heap.size
      rw [ht.size]
      rcases over_ι.1 hk with ⟨_, rfl⟩ | ⟨_, h2⟩
      · exact h.bound id _ hi
      · exact h.bound k b1 h2 }

/-- The cells that are read from a row over a box. -/
theorem src_os {c : Cfg} {m q off z len : Nat} {cs : List AV} {v : Value} (h : HR c) (hH : c.H[m + q]? = some (.cells cs)) (hle : off + len * z ≤ cs.length) (hr : RelV c (.os m q off z len) v) : SrcOk c z v len ((cs.drop off).take (len * z)) := by
  cases hr with
  | os hb hc =>
    rename_i b cap
    obtain ⟨o', g1, g2, g3⟩ := hb
    obtain ⟨arr, e, vs, h1, h2, h3, h4, h5⟩ := box_cells h hH g3
    have hl : ((vs.drop off).take (len * z)).length = len * z := by rw [List.length_take, List.length_drop]; omega
    refine ⟨(vs.drop off).take (len * z), (h3.drop off).take _, hl, fun P w => by simp [Builtin.lenOf], fun P w hw => ?_⟩
    have hca : CellsAt w ⟨b, off, none⟩ ((vs.drop off).take (len * z)) := fun k u hk => by
      rw [List.getElem?_take] at hk
      split at hk
      · rw [List.getElem?_drop] at hk
        have e2 : (⟨b, off, none⟩ : Addr).add k = ⟨b, off + k, none⟩ := by
          unfold Addr.add
          split
          · rename_i h0; rw [h0]; rfl
          · rfl
        rw [e2, cell?_heap hw]
        exact cell?_of h1 (h4 _ _ hk)
      · cases hk
    have := run_loadCells (P := P) hca
    rw [hl] at this
    simpa [Builtin.firstCells] using this

/-- An append to an own row whose room is known: the row lies in a new box. -/
theorem app_ov {E : Env} {c : Cfg} {ty tx e m q k m' q' : Nat} {ty0 : TypeId} {j ix : TI} {cs : List AV} {ys : List (List AV)} {v x : Value} (ho : HR c) (hs : sliceOf E.T ty = some (e, j)) (hx : lookT E.T tx = some ix) (hd : ∀ k, ix.d ≠ .int k)
    (hb : 0 < j.bytes) (hone : ∀ y ∈ ys, ∀ a ∈ y, a.one = true) (hzs : j.zero.cells.size = j.sz) (hH : c.H[m + q]? = some (.cells cs)) (hle : k * j.sz ≤ cs.length) (hr : RelV c (.ov m q 0 j.sz k) v) (hsrc : SrcOk c j.sz x ys.length ys.flatten)
    (hfit : (k + ys.length) * j.bytes ≤ 140737488355328) (hm : m' + q' = c.H.length) :
    ∃ v' ι' w', (Builtin.append_ #[ty, tx] ty0 #[v, x]).run E.P c.w = .ok v' w' ∧ Ext c ⟨ι', c.H.set (m + q) .dead ++ [.cells (cs.take (k * j.sz) ++ ys.flatten)], w'⟩ ∧ HR ⟨ι', c.H.set (m + q) .dead ++ [.cells (cs.take (k * j.sz) ++ ys.flatten)], w'⟩ ∧
      RelV ⟨ι', c.H.set (m + q) .dead ++ [.cells (cs.take (k * j.sz) ++ ys.flatten)], w'⟩ (.ov m' q' 0 j.sz (k + ys.length)) v' := by
  obtain ⟨hu, hj⟩ := sliceOf_spec hs
  obtain ⟨dx, hux, hdx⟩ := not_int_of hx hd
  obtain ⟨info, hinfo, hi1, hi2, hi3⟩ := ext_info hj
  have hid := get_lt hH
  have hsr := src_os ho hH (by rw [Nat.zero_add]; exact hle) (Sub.ov c v hr)
  obtain ⟨olds, ho1, ho2, ho3, ho4⟩ := hsr
  obtain ⟨news, hn1, hn2, hn3, hn4⟩ := hsrc
  rw [List.drop_zero] at ho1
  cases hr with
  | ov hbx hc hsz =>
    rename_i b cap
    obtain ⟨o', g1, g2, g3⟩ := hbx
    obtain ⟨arr, et, vs, h1, h2, h3, h4, h5⟩ := box_cells ho hH g3
    have hroomA : cap * j.sz ≤ arr.size := by
      obtain ⟨arr', e', fr', r1, r2⟩ := hsz
      rw [h1] at r1
      injection r1 with r1
      injection r1 with r1 _ _
      rw [r1]; omega
    by_cases hroom : k + ys.length ≤ cap
    · have hfits : k * j.sz + news.length ≤ arr.size := by
        rw [hn2, ← Nat.add_mul]
        exact Nat.le_trans (Nat.mul_le_mul_right _ hroom) hroomA
      have hadd : (⟨b, 0, none⟩ : Addr).add (k * j.sz) = ⟨b, k * j.sz, none⟩ := by
        unfold Addr.add
        split
        · rename_i h0; rw [h0]
        · simp
      obtain ⟨w', arr', hrun, htu, hb', hs', hk'⟩ := run_storeCells (P := E.P) (b := b) (off := k * j.sz) news 0 c.w arr h1 (by omega) (fun u hu => by
        obtain ⟨i, hk⟩ := List.getElem?_of_mem hu
        have hka : i < ys.flatten.length := by rw [hn1.1]; exact (List.getElem?_eq_some_iff.1 hk).1
        have hmem := List.getElem_mem hka
        obtain ⟨y, hy, hya⟩ := List.mem_flatten.1 hmem
        exact (hn1.2 i _ u (List.getElem?_eq_getElem hka) hk).one' (hone y hy _ hya))
      simp only [Nat.add_zero] at hk'
      have hx1 := Ext.over (cs := cs.take (k * j.sz) ++ ys.flatten) ho hH g3 htu
      have hobj : objRel (c.over (m + q) b (cs.take (k * j.sz) ++ ys.flatten) w') b (.cells (cs.take (k * j.sz) ++ ys.flatten)) := by
        refine ⟨arr', et, hb', ?_, fun i a ha => ?_⟩
        · rw [List.length_append, List.length_take, hn1.1, hs']; omega
        · by_cases hi : i < k * j.sz
          · rw [List.getElem?_append_left (by rw [List.length_take]; omega), List.getElem?_take, if_pos hi] at ha
            obtain ⟨u, hu, hru⟩ := h3.get ha
            refine ⟨u, ?_, hru.mono hx1.toExt0⟩
            rw [hk' i, if_neg (by omega)]
            exact h4 i u hu
          · have hlt : (cs.take (k * j.sz)).length = k * j.sz := by rw [List.length_take]; omega
            rw [List.getElem?_append_right (by omega), hlt] at ha
            obtain ⟨u, hu, hru⟩ := hn1.get ha
            refine ⟨u, ?_, hru.mono hx1.toExt0⟩
            have hul := (List.getElem?_eq_some_iff.1 hu).1
            rw [hk' i, if_pos (by omega)]
            exact hu
      have hh := HR.over ho hH g3 htu hobj
      refine ⟨.slice (some ⟨b, 0, none⟩) (k + ys.length) cap, _, w', ?_, hx1, hh, ?_⟩
      · rw [run_append_in hu hux hdx hinfo (hn3 _ _) (by rw [hi2]; exact hn4 _ _ rfl) hroom, hi2]
        simp only
        rw [hadd, hrun]
        rfl
      · refine .ov ⟨_, over_get.2 (.inr ⟨hm, rfl⟩), rfl, over_ι.2 (.inl ⟨hm, rfl⟩)⟩ hroom ?_
        exact ⟨arr', et, _, hb', by rw [hs']; omega⟩
    · obtain ⟨cap', rest, r1, r2, r3, r4⟩ := run_append_out (P := E.P) (w := c.w) (t := ty) (tx := tx) (ty := ty0) (e := e) (z := j.zero) (base := some ⟨b, 0, none⟩) (sLen := k) (sCap := cap) (v := x) (olds := olds) (news := news) hu hux hdx hinfo hi1
        (hn3 _ _) (by rw [hi2]; exact hn4 _ _ rfl) (by rw [hi2]; exact ho4 _ _ rfl) (by omega) (by omega) (by rw [hi3]; exact hfit)
      have hdr := ho.drew
      have hrl : RelL c.drew (cs.take (k * j.sz) ++ ys.flatten) (olds ++ news) := (ho1.append hn1).mono (Ext.drew c).toExt0
      have hx1 := Ext.newObj c.drew (.cells (cs.take (k * j.sz) ++ ys.flatten)) (.cells (olds ++ news ++ rest).toArray e) hdr
      have hobj : objRel (c.drew.newObj (.cells (cs.take (k * j.sz) ++ ys.flatten)) (.cells (olds ++ news ++ rest).toArray e)) c.drew.w.heap.size (.cells (cs.take (k * j.sz) ++ ys.flatten)) := by
        refine ⟨_, e, heap_alloc_eq _ _, by have := hrl.1; simp only [List.size_toArray, List.length_append] at this ⊢; omega, fun i a0 ha => ?_⟩
        obtain ⟨u, hu1, hu2⟩ := hrl.get ha
        exact ⟨u, by rw [List.getElem?_toArray, List.getElem?_append_left (List.getElem?_eq_some_iff.1 hu1).1]; exact hu1, hu2.mono hx1.toExt0⟩
      have hh := HR.newObj hdr hobj
      have hold : (c.drew.newObj (.cells (cs.take (k * j.sz) ++ ys.flatten)) (.cells (olds ++ news ++ rest).toArray e)).H[m + q]? = some (.cells cs) := newObj_get.2 (.inl hH)
      have hx2 := Ext.kill hh hold
      have hh2 := hh.kill hold
      have eH : ((c.drew.newObj (.cells (cs.take (k * j.sz) ++ ys.flatten)) (.cells (olds ++ news ++ rest).toArray e)).kill (m + q)).H = c.H.set (m + q) .dead ++ [.cells (cs.take (k * j.sz) ++ ys.flatten)] := by
        show (c.H ++ [_]).set (m + q) .dead = _
        rw [List.set_append, if_pos hid]
      have eC : (c.drew.newObj (.cells (cs.take (k * j.sz) ++ ys.flatten)) (.cells (olds ++ news ++ rest).toArray e)).kill (m + q) = ⟨(c.drew.newObj (.cells (cs.take (k * j.sz) ++ ys.flatten)) (.cells (olds ++ news ++ rest).toArray e)).ι, c.H.set (m + q) .dead ++ [.cells (cs.take (k * j.sz) ++ ys.flatten)], c.w.drew.alloc (.cells (olds ++ news ++ rest).toArray e)⟩ := by
        rw [← eH]; rfl
      rw [eC] at hx2 hh2
      refine ⟨_, _, _, r4, ((Ext.drew c).trans hx1).trans hx2, hh2, ?_⟩
      have hrv : RelV (c.drew.newObj (.cells (cs.take (k * j.sz) ++ ys.flatten)) (.cells (olds ++ news ++ rest).toArray e)) (.ov m' q' 0 j.sz (k + ys.length)) (.slice (some ⟨c.w.heap.size, 0, none⟩) (k + ys.length) cap') := by
        refine .ov ⟨_, newObj_get.2 (.inr ⟨hm, rfl⟩), rfl, (newObj_ι hdr).2 (.inr ⟨hm, rfl⟩)⟩ r1 ?_
        refine ⟨_, e, _, heap_alloc_eq _ _, ?_⟩
        simp only [List.size_toArray, List.length_append, r3, ho2, hn2, hzs]
        rw [← Nat.add_mul, ← Nat.add_mul]
        have : k + ys.length + (cap' - (k + ys.length)) = cap' := by omega
        rw [this]; omega
      exact hrv.mono hx2.toExt0

/-- An append to a slice without spare places, its row the activation's own and its room known. -/
theorem app_ownV {E : Env} {c : Cfg} {ty tx e : Nat} {ty0 : TypeId} {j ix : TI} {xs ys : List (List AV)} {v x : Value} (ho : HR c) (hs : sliceOf E.T ty = some (e, j)) (hx : lookT E.T tx = some ix) (hd : ∀ k, ix.d ≠ .int k)
    (hb : 0 < j.bytes) (hzs : j.zero.cells.size = j.sz) (hr : RelV c (.sl .full j.sz xs) v) (hsrc : SrcOk c j.sz x ys.length ys.flatten) (hyz : ∀ y ∈ ys, y.length = j.sz) (hne : ys ≠ []) (hfit : (xs.length + ys.length) * j.bytes ≤ 140737488355328) {m q : Nat} (hm : m + q = c.H.length) :
    ∃ v' ι' w', (Builtin.append_ #[ty, tx] ty0 #[v, x]).run E.P c.w = .ok v' w' ∧ Ext c ⟨ι', c.H ++ [.cells (xs ++ ys).flatten], w'⟩ ∧ HR ⟨ι', c.H ++ [.cells (xs ++ ys).flatten], w'⟩ ∧
      RelV ⟨ι', c.H ++ [.cells (xs ++ ys).flatten], w'⟩ (.ov m q 0 j.sz (xs.length + ys.length)) v' := by
  obtain ⟨hu, hj⟩ := sliceOf_spec hs
  obtain ⟨dx, hux, hdx⟩ := not_int_of hx hd
  obtain ⟨info, hinfo, hi1, hi2, hi3⟩ := ext_info hj
  cases hv : v with
  | slice a len cap =>
    subst hv
    obtain ⟨hl, hz, hc, ht, olds, ho1, ho2, _, ho4⟩ := olds_of hr
    obtain ⟨news, hn1, hn2, hn3, hn4⟩ := hsrc
    have hcap : cap = len := ht
    subst hcap
    have hlen : 0 < ys.length := List.length_pos_iff.2 hne
    obtain ⟨cap', rest, h1, h2, h3, h4⟩ := run_append_out (P := E.P) (w := c.w) (t := ty) (tx := tx) (ty := ty0) (e := e) (z := j.zero) (base := a) (sLen := cap) (sCap := cap) (v := x) (olds := olds) (news := news) hu hux hdx hinfo hi1
      (hn3 _ _) (by rw [hi2]; exact hn4 _ _ rfl) (by rw [hi2]; exact ho4 _ _ rfl) (by omega) (by omega) (by rw [hi3, ← hl]; exact hfit)
    have hdr := ho.drew
    have hrl : RelL c.drew (xs ++ ys).flatten (olds ++ news) := by rw [List.flatten_append]; exact (ho1.append hn1).mono (Ext.drew c).toExt0
    have hx1 := Ext.newObj c.drew (.cells (xs ++ ys).flatten) (.cells (olds ++ news ++ rest).toArray e) hdr
    have hobj : objRel (c.drew.newObj (.cells (xs ++ ys).flatten) (.cells (olds ++ news ++ rest).toArray e)) c.drew.w.heap.size (.cells (xs ++ ys).flatten) := by
      refine ⟨_, e, heap_alloc_eq _ _, by have := hrl.1; simp only [List.size_toArray, List.length_append] at this ⊢; omega, fun i a0 ha => ?_⟩
      obtain ⟨u, hu1, hu2⟩ := hrl.get ha
      exact ⟨u, by rw [List.getElem?_toArray, List.getElem?_append_left (List.getElem?_eq_some_iff.1 hu1).1]; exact hu1, hu2.mono hx1.toExt0⟩
    have hh := HR.newObj hdr hobj
    refine ⟨_, _, _, h4, (Ext.drew c).trans hx1, hh, ?_⟩
    rw [hl]
    refine .ov ?_ h1 ?_
    · exact ⟨_, newObj_get.2 (.inr ⟨hm, rfl⟩), rfl, (newObj_ι hdr).2 (.inr ⟨hm, rfl⟩)⟩
    · refine ⟨_, e, _, heap_alloc_eq _ _, ?_⟩
      simp only [List.size_toArray, List.length_append, h3, ho2, hn2, hzs]
      rw [← Nat.add_mul, ← Nat.add_mul]
      have : cap + ys.length + (cap' - (cap + ys.length)) = cap' := by omega
      rw [this]; omega
  | _ => subst hv; cases hr

section
variable {E : Env} {n : Nat} {t : Slots} {H L X : List AObj} {o : Oper}

theorem P1.appOE {ty tx e z m' r' : Nat} {j ix : TI} {p q : Operand} {z0 : Nat} {ys : List (List AV)}
    (hop : o.op = .call { callee := .builtin .append, args := ⟨[p, q]⟩, argTypes := ⟨[ty, tx]⟩ }) (hs : sliceOf E.T ty = some (e, j)) (hz : j.sz = z) (hx : lookT E.T tx = some ix) (hd : ∀ k, ix.d ≠ .int k)
    (hb : Nat.blt 0 j.bytes = true) (hzc : Nat.beq j.zero.cells.size z = true) (hp : evalA E.G t p = .sl .full z0 []) (hq : srcA z (evalA E.G t q) = some ys) (hne : ys ≠ []) (hfit : ys.length * j.bytes ≤ 140737488355328) (hm : m' + r' = X.length) :
    P1 E n X (X ++ [.cells ys.flatten]) o t (.ov m' r' 0 z ys.length) :=
  ⟨fun cc e => (by rw [hop] at e; cases e), fun c a hH ho sr => by
    subst hz
    have hpr := eval_rel ho sr p
    rw [hp] at hpr
    have hpr' := Sub.full (z' := j.sz) c _ hpr
    have hqr := eval_rel ho sr q
    obtain ⟨s1, s2⟩ := srcA_ok hq hqr
    obtain ⟨v', ι', w', h1, h2, h3, h4⟩ := app_ownV (ty0 := o.type) (m := m') (q := r') ho.hr hs hx hd (by simpa using hb) (Nat.eq_of_beq_eq_true hzc) hpr' s1 s2 hne (by simpa using hfit) (by rw [hH]; exact hm)
    rw [hH] at h2 h3 h4
    simp only [List.nil_append, List.length_nil, Nat.zero_add] at h2 h3 h4
    refine ⟨v', ι', w', ?_, h2, h3, h4⟩
    simp [execOp, hop, resolve, invoke, builtin, h1]⟩

/-- An append to an own row whose room is known: the row lies in a new box. -/
theorem P1.appOV {ty tx e z m r m' r' k : Nat} {j ix : TI} {p q : Operand} {cs : List AV} {ys : List (List AV)}
    (hop : o.op = .call { callee := .builtin .append, args := ⟨[p, q]⟩, argTypes := ⟨[ty, tx]⟩ }) (hs : sliceOf E.T ty = some (e, j)) (hz : j.sz = z) (hx : lookT E.T tx = some ix) (hd : ∀ k, ix.d ≠ .int k)
    (hb : Nat.blt 0 j.bytes = true) (hzc : Nat.beq j.zero.cells.size z = true) (hp : evalA E.G t p = .ov m r 0 z k) (hL : X[m + r]? = some (.cells cs)) (hle : k * z ≤ cs.length) (hq : srcA z (evalA E.G t q) = some ys) (hone : ∀ y ∈ ys, ∀ a ∈ y, a.one = true)
    (hfit : (k + ys.length) * j.bytes ≤ 140737488355328) (hm : m' + r' = X.length) :
    P1 E n X (X.set (m + r) .dead ++ [.cells (cs.take (k * z) ++ ys.flatten)]) o t (.ov m' r' 0 z (k + ys.length)) :=
  ⟨fun cc e => (by rw [hop] at e; cases e), fun c a hH ho sr => by
    subst hz
    have hpr := eval_rel ho sr p
    rw [hp] at hpr
    have hqr := eval_rel ho sr q
    obtain ⟨s1, s2⟩ := srcA_ok hq hqr
    obtain ⟨v', ι', w', h1, h2, h3, h4⟩ := app_ov (ty0 := o.type) (m' := m') (q' := r') ho.hr hs hx hd (by simpa using hb) hone (Nat.eq_of_beq_eq_true hzc) (by rw [hH]; exact hL) hle hpr s1 hfit (by rw [hH]; exact hm)
    rw [hH] at h2 h3 h4
    refine ⟨v', ι', w', ?_, h2, h3, h4⟩
    simp [execOp, hop, resolve, invoke, builtin, h1]⟩

/-- A store into a box, by its id. -/
theorem U1.storeAt {ty m j off : Nat} {i : TI} {p x : Operand} {cs ys : List AV} (hop : o.op = .store ty p x)
    (hp : evalA E.G t p = .ptr m j off) (hL : X[m + j]? = some (.cells cs)) (hx : cellsA (evalA E.G t x) = some ys) (hi : lookT E.T ty = some i) (hsz : Nat.beq ys.length i.sz = true) (hone : allOne ys = true) (hle : Nat.ble (off + ys.length) cs.length = true) :
    U1 E n X (X.set (m + j) (.cells (putA cs off ys))) o t :=
  ⟨fun cc e => (by rw [hop] at e; cases e), fun c a hH ho s => by
    have hr := cellsA_rel (eval_rel ho s x) hx
    have hpr := eval_rel ho s p
    rw [hp] at hpr
    generalize hv : a.eval p = v at hpr
    cases hpr with
    | ptr hb =>
      rename_i b
      obtain ⟨o', h1, h2, h3⟩ := hb
      have hcs : c.H[m + j]? = some (.cells cs) := by rw [hH]; exact hL
      obtain ⟨w', hrun, hx, hh⟩ := store_sound ho.hr hcs h3 hi hr (allOne_mem hone) (Nat.eq_of_beq_eq_true hsz) (Nat.le_of_ble_eq_true hle)
      unfold Cfg.upd at hx hh
      rw [hH] at hx hh
      refine ⟨_, w', ?_, hx, hh⟩
      simp [execOp, hop, hv, hrun]⟩

/-- How long an own row is. -/
theorem P1.lenV {ty e m r off z len : Nat} {j : TI} {x : Operand} (hop : o.op = .call { callee := .builtin .len, args := ⟨[x]⟩, argTypes := ⟨[ty]⟩ }) (hs : sliceOf E.T ty = some (e, j)) (hx : evalA E.G t x = .ov m r off z len) :
    P1 E n X X o t (.int .i64 len) :=
  .still (fun cc e => by rw [hop] at e; cases e) (fun c a hH ho sr => by
    obtain ⟨hu, hj⟩ := sliceOf_spec hs
    have hxr := eval_rel ho sr x
    rw [hx] at hxr
    generalize hv : a.eval x = v at hxr
    cases hxr with
    | ov hb hc hsz =>
      refine ⟨.int .i64 len, ?_, .int⟩
      simp [execOp, hop, hv, resolve, invoke, builtin, Builtin.len_, run_underlying hu]
      rfl)

/-- An element of an own row, its address. -/
theorem P1.elemV {ty e m q off z len : Nat} {x ix : Operand} {j : TI} {k : IntKind} {i : Int} (hop : o.op = .indexAddr ty x ix)
    (hs : sliceOf E.T ty = some (e, j)) (hx : evalA E.G t x = .ov m q off z len) (hi : evalA E.G t ix = .int k i) (hz : j.sz = z) (h0 : 0 ≤ i) (h1 : i < len) : P1 E n H H o t (.ptr m q (off + i.toNat * z)) :=
  .still (fun cc e => by rw [hop] at e; cases e) (fun c a hH ho sr => by
    obtain ⟨hu, hj⟩ := sliceOf_spec hs
    have hxr := eval_rel ho sr x
    rw [hx] at hxr
    have hir := eval_rel ho sr ix
    rw [hi] at hir
    generalize hv : a.eval x = v at hxr
    generalize hv2 : a.eval ix = v2 at hir
    cases hir
    cases hxr with
    | ov hb hc hsz =>
      have := RelV.ptr_add (.ptr hb : RelV c (.ptr m q off) _) (i.toNat * z)
      refine ⟨_, ?_, this⟩
      simp [execOp, hop, hv, hv2, Instr.indexAt, asIntOf, run_underlying hu, h0, h1, run_sizeOf hj, hz])
end
end Go.Gp

/- The greatest of three; library functions by the kit's contracts. -/
namespace Go.Gp
open Go.RowKit
set_option linter.unusedVariables false
set_option linter.unusedSimpArgs false
section
variable {E : Env} {n : Nat} {t : Slots} {H : List AObj} {o : Oper}
theorem P1.max3 {x y z : Operand} {ats : Array TypeId} {k : IntKind} {a b c : Int} (hop : o.op = .call { callee := .builtin .max, args := ⟨[x, y, z]⟩, argTypes := ats }) (hx : evalA E.G t x = .int k a) (hy : evalA E.G t y = .int k b) (hz : evalA E.G t z = .int k c) :
    P1 E n H H o t (.int k (if c > (if b > a then b else a) then c else (if b > a then b else a))) :=
  .still (fun cc e => by rw [hop] at e; cases e) (fun cf act hH ho sr => by
    have hxr := eval_rel ho sr x
    have hyr := eval_rel ho sr y
    have hzr := eval_rel ho sr z
    rw [hx] at hxr
    rw [hy] at hyr
    rw [hz] at hzr
    generalize hv : act.eval x = v at hxr
    generalize hu : act.eval y = u at hyr
    generalize hq : act.eval z = q at hzr
    cases hxr; cases hyr; cases hzr
    refine ⟨.int k (if c > (if b > a then b else a) then c else (if b > a then b else a)), ?_, .int⟩
    simp [execOp, hop, resolve, invoke, builtin, Builtin.max_, Builtin.max2, hv, hu, hq])
end
/-- A library function by a contract that leaves what was there as it was. -/
theorem CallsA.lib {E : Env} {g : FuncId} {args : List AV} {H : List AObj} {r : AV} {fn : Func} {code : Code} (hf : E.P.funcs[g]? = some fn) (hb : fn.body = some code) (hn : (fn.name == "runtime.NumGoroutine") = false)
    (h : ∀ (c : Cfg) (vs : List Value), c.H = H → Ok E.G c → RelL c args vs → Calls E.P g vs.toArray c.w fun e w' => Below c.w.heap.size c.w w' ∧ ∃ x, e = .returned x ∧ RelV ⟨c.ι, c.H, w'⟩ r x) : CallsA E g args H (Is H r) := by
  refine ⟨?_⟩
  intro c vs e1 e2 e3
  have hc := h c vs e1 e2 e3
  rw [run_callFunc_body hf hb hn]
  refine Calls.mono hc ?_
  rintro e w' ⟨k1, x, rfl, k2⟩
  have hx := Ext.of_below e2.hr k1
  exact ⟨c.ι, c.H, .ret r, hx, e2.step hx (HR.of_below e2.hr k1), k2, e1, rfl⟩
end Go.Gp
