/- append to a row that the activation owns. -/
import Derived.Test.YtmacdhglhafldaaA8
namespace Go.Gp
open Go.RowKit
set_option linter.unusedVariables false
set_option linter.unusedSimpArgs false

theorem ext_info {E : Env} {e : Nat} {j : TI} (hj : lookT E.T e = some j) : ∃ info, E.P.info? e = some info ∧ info.zero = some j.zero ∧ info.size = j.sz ∧ info.bytes = j.bytes := by
  obtain ⟨info, hinfo, hi⟩ := Option.map_eq_some_iff.1 (Env.ti hj).info
  simp only [Prod.mk.injEq] at hi
  exact ⟨info, hinfo, hi⟩

theorem not_int_of {E : Env} {tx : Nat} {ix : TI} (hx : lookT E.T tx = some ix) (hd : ∀ k, ix.d ≠ .int k) : ∃ dx, E.P.underlying tx = some dx ∧ ∀ k, dx ≠ .int k := by
  obtain ⟨dx, hux, hokx⟩ := (Env.ti hx).u
  refine ⟨dx, hux, fun k e => ?_⟩
  subst e
  cases hd' : ix.d <;> rw [hd'] at hokx <;> simp [TD.ok] at hokx
  exact hd _ hd'

theorem set_self {H : List AObj} {i : Nat} {o : AObj} (h : H[i]? = some o) : H.set i o = H := by
  apply List.ext_getElem?
  intro k
  rw [List.getElem?_set]
  split
  · rename_i e
    subst e
    rw [h]
    rw [if_pos (get_lt h)]
  · rfl

/-- A tail's watermark goes up, in place. -/
theorem Ext.tailIn {c : Cfg} {id b len n' z : Nat} {arr arr' : Array Value} {e : TypeId} {w' : World} (h : HR c) (hH : c.H[id]? = some (.tail len z)) (hi : c.ι id = some b) (hw : c.w.heap[b]? = some (.cells arr e (0, 0)))
    (ht : Turned c.w w' b) (hw' : w'.heap[b]? = some (.cells arr' e (0, 0))) (hsz : arr'.size = arr.size) (hold : ∀ k, k < len * z → arr'[k]? = arr[k]?) (hle : len ≤ n') : Ext c (c.upd id (.tail n' z) w') := by
  have hid := get_lt hH
  exact {
    fz := fun p v _ hf => by
      by_cases hpb : p.block = b
      · have hlt : p.off < len * z := by
          rcases Nat.lt_or_ge p.off (len * z) with h1 | h1
          · exact h1
          · exact absurd ⟨id, .tail len z, hH, by rw [hpb]; exact hi, h1⟩ hf.2
        refine ⟨?_, ?_⟩
        · have h1 := hf.1
          unfold World.cell? at h1 ⊢
          rw [hpb, hw] at h1
          show (match w'.heap[p.block]? with | some (.cells c _ _) => if p.spot.isSome then none else c[p.off]? | _ => none) = _
          rw [hpb, hw']
          simp only at h1 ⊢
          rw [hold _ hlt]
          exact h1
        · rintro ⟨k, x, h1, h2, h3⟩
          rcases (set_get hid).1 h1 with ⟨rfl, rfl⟩ | ⟨hne, h1⟩
          · have h3' : n' * z ≤ p.off := h3
            have := Nat.mul_le_mul_right z hle
            omega
          · have h2' : c.ι k = some p.block := h2
            refine hf.2 ⟨k, x, h1, h2', h3⟩
      · refine ⟨?_, ?_⟩
        · have h1 := hf.1
          unfold World.cell? at h1 ⊢
          show (match w'.heap[p.block]? with | some (.cells c _ _) => if p.spot.isSome then none else c[p.off]? | _ => none) = _
          rw [ht.other _ hpb]
          exact h1
        · rintro ⟨k, x, h1, h2, h3⟩
          rcases (set_get hid).1 h1 with ⟨rfl, rfl⟩ | ⟨_, h1⟩
          · exact hpb (by have : c.ι k = some p.block := h2; rw [hi] at this; simpa using this.symm)
          · exact hf.2 ⟨k, x, h1, h2, h3⟩
    bx := fun k b1 ⟨x, h1, h2, h3⟩ => by
      have hk : k ≠ id := fun e => by subst e; rw [hH] at h1; injection h1 with h1; subst h1; simp [AObj.box] at h2
      exact ⟨x, (set_get hid).2 (.inr ⟨hk, h1⟩), h2, h3⟩
    tl := fun k n z' hn => by
      by_cases hk : k = id
      · subst hk
        rw [hH] at hn
        injection hn with hn
        injection hn with hn1 hn2
        subst hn1; subst hn2
        refine .inr ⟨n', (set_get hid).2 (.inl ⟨rfl, rfl⟩), hle, fun _ => ⟨rfl, fun b1 a1 e1 h1 h2 => ?_⟩⟩
        rw [hi] at h1
        injection h1 with h1
        subst h1
        rw [hw] at h2
        injection h2 with h2
        injection h2 with h2 h3 h4
        subst h2; subst h3
        exact ⟨arr', hw', hsz⟩
      · refine .inr ⟨n, (set_get hid).2 (.inr ⟨hk, hn⟩), Nat.le_refl _, fun _ => ⟨rfl, fun b1 a1 e1 h1 h2 => ⟨a1, ?_, rfl⟩⟩⟩
        have : b1 ≠ b := fun e => by subst e; exact hk (h.inj k id b1 _ _ hn hH rfl rfl h1 hi)
        exact (ht.other _ this).trans h2
    dd := fun k hd => by
      have hk : k ≠ id := fun e => by subst e; rw [hH] at hd; cases hd
      exact (set_get hid).2 (.inr ⟨hk, hd⟩)
    size := by show _ ≤ w'.heap.size; rw [ht.size]; exact Nat.le_refl _
    os := ht.os
    tape := ht.tape
    output := ht.output
    hlen := by show _ ≤ (c.H.set id _).length; simp
    outer := fun k hk hn => ht.other k (fun e => by subst e; exact hn id _ hH rfl hi)
    nw := fun k b1 x hx hlx hix hb1 => by
      rcases (set_get hid).1 hx with ⟨rfl, rfl⟩ | ⟨_, hx⟩
      · exact ⟨_, hH, rfl, hix⟩
      · exact ⟨x, hx, hlx, hix⟩ }

/-- A tail's row moves into a new block. -/
def Cfg.moveTail (c : Cfg) (id n' z : Nat) (ob : Obj) : Cfg := { ι := fun k => if k = id then some c.w.heap.size else c.ι k, H := c.H.set id (.tail n' z), w := c.w.alloc ob }

theorem moveTail_ι {c : Cfg} {id n' z k b : Nat} {ob : Obj} : (c.moveTail id n' z ob).ι k = some b ↔ (k = id ∧ b = c.w.heap.size) ∨ (k ≠ id ∧ c.ι k = some b) := by
  show (if k = id then some c.w.heap.size else c.ι k) = some b ↔ _
  by_cases hk : k = id
  · rw [if_pos hk]
    constructor
    · intro h; injection h with h; exact .inl ⟨hk, h.symm⟩
    · rintro (⟨_, h⟩ | ⟨h, _⟩)
      · rw [h]
      · exact absurd hk h
  · rw [if_neg hk]
    constructor
    · intro h; exact .inr ⟨hk, h⟩
    · rintro (⟨h, _⟩ | ⟨_, h⟩)
      · exact absurd h hk
      · exact h

theorem Ext.moveTail {c : Cfg} {id len n' z : Nat} {ob : Obj} (h : HR c) (hH : c.H[id]? = some (.tail len z)) (hlt : len < n') : Ext c (c.moveTail id n' z ob) := by
  have hid := get_lt hH
  exact {
    fz := fun p v hp hf => by
      refine ⟨cell?_alloc_lt _ _ hf.1, ?_⟩
      rintro ⟨k, x, h1, h2, h3⟩
      rcases moveTail_ι.1 h2 with ⟨rfl, h2⟩ | ⟨hne, h2⟩
      · omega
      · rcases (set_get hid).1 h1 with ⟨e, _⟩ | ⟨_, h1⟩
        · exact hne e
        · exact hf.2 ⟨k, x, h1, h2, h3⟩
    bx := fun k b1 ⟨x, h1, h2, h3⟩ => by
      have hk : k ≠ id := fun e => by subst e; rw [hH] at h1; injection h1 with h1; subst h1; simp [AObj.box] at h2
      exact ⟨x, (set_get hid).2 (.inr ⟨hk, h1⟩), h2, moveTail_ι.2 (.inr ⟨hk, h3⟩)⟩
    tl := fun k n z' hn => by
      by_cases hk : k = id
      · subst hk
        rw [hH] at hn
        injection hn with hn
        injection hn with hn1 hn2
        subst hn1; subst hn2
        exact .inr ⟨n', (set_get hid).2 (.inl ⟨rfl, rfl⟩), by omega, fun e => by omega⟩
      · refine .inr ⟨n, (set_get hid).2 (.inr ⟨hk, hn⟩), Nat.le_refl _, fun _ => ⟨?_, fun b1 a1 e1 h1 h2 => ⟨a1, (heap_alloc_lt _ _ (block_lt h2)).trans h2, rfl⟩⟩⟩
        show (if k = id then some c.w.heap.size else c.ι k) = c.ι k
        rw [if_neg hk]
    dd := fun k hd => by
      have hk : k ≠ id := fun e => by subst e; rw [hH] at hd; cases hd
      exact (set_get hid).2 (.inr ⟨hk, hd⟩)
    size := by show _ ≤ (c.w.alloc ob).heap.size; rw [heap_alloc_size]; omega
    os := rfl
    tape := rfl
    output := rfl
    hlen := by show _ ≤ (c.H.set id _).length; simp
    outer := fun b hb _ => heap_alloc_lt _ _ hb
    nw := fun k b1 x hx hlx hix hb1 => by
      rcases moveTail_ι.1 hix with ⟨rfl, h2⟩ | ⟨hne, h2⟩
      · omega
      · rcases (set_get hid).1 hx with ⟨e, _⟩ | ⟨_, hx⟩
        · exact absurd e hne
        · exact ⟨x, hx, hlx, h2⟩ }

theorem HR.moveTail {c : Cfg} {id len n' z : Nat} {arr : Array Value} {e : TypeId} (h : HR c) (hH : c.H[id]? = some (.tail len z)) (hlt : len < n') (hsz : n' * z ≤ arr.size) : HR (c.moveTail id n' z (.cells arr e)) := by
  have hid := get_lt hH
  have hx := Ext.moveTail (ob := .cells arr e) h hH hlt
  exact {
    dom := fun k b hk => by
      show k < (c.H.set id _).length
      rw [List.length_set]
      rcases moveTail_ι.1 hk with ⟨rfl, _⟩ | ⟨_, h2⟩
      · exact hid
      · exact h.dom k b h2
    ex := fun k x hk hbx hlx => by
      rcases (set_get hid).1 hk with ⟨rfl, rfl⟩ | ⟨hne, hk⟩
      · exact ⟨_, moveTail_ι.2 (.inl ⟨rfl, rfl⟩)⟩
      · obtain ⟨b, hb⟩ := h.ex k x hk hbx hlx
        exact ⟨b, moveTail_ι.2 (.inr ⟨hne, hb⟩)⟩
    obj := fun k b x hk hik hlx => by
      rcases moveTail_ι.1 hik with ⟨rfl, rfl⟩ | ⟨hne, h2⟩
      · rcases (set_get hid).1 hk with ⟨_, rfl⟩ | ⟨hne, _⟩
        · exact ⟨arr, e, heap_alloc_eq _ _, hsz⟩
        · exact absurd rfl hne
      · rcases (set_get hid).1 hk with ⟨e1, _⟩ | ⟨_, hk⟩
        · exact absurd e1 hne
        · exact (h.obj k b x hk h2 hlx).mono hx.toExt0 (heap_alloc_lt _ _ (h.bound k b h2))
    inj := fun i j b x y h1 h2 l1 l2 i1 i2 => by
      rcases moveTail_ι.1 i1 with ⟨e1, g1⟩ | ⟨n1, g1⟩
      · rcases moveTail_ι.1 i2 with ⟨e2, g2⟩ | ⟨n2, g2⟩
        · rw [e1, e2]
        · have := h.bound _ _ g2; omega
      · rcases moveTail_ι.1 i2 with ⟨e2, g2⟩ | ⟨n2, g2⟩
        · have := h.bound _ _ g1; omega
        · rcases (set_get hid).1 h1 with ⟨e1, _⟩ | ⟨_, k1⟩
          · exact absurd e1 n1
          · rcases (set_get hid).1 h2 with ⟨e2, _⟩ | ⟨_, k2⟩
            · exact absurd e2 n2
            · exact h.inj i j b _ _ k1 k2 l1 l2 g1 g2
    bound := fun k b hk => by
      show b < (c.w.alloc _).heap.size
      rw [heap_alloc_size]
      rcases moveTail_ι.1 hk with ⟨_, rfl⟩ | ⟨_, h2⟩
      · omega
      · have := h.bound _ _ h2; omega }

/-- An append to the row of an owned tail. -/
theorem app_row {E : Env} {c : Cfg} {ty tx e m q : Nat} {ty0 : TypeId} {j ix : TI} {xs ys : List (List AV)} {v x : Value} (ho : HR c) (hs : sliceOf E.T ty = some (e, j)) (hx : lookT E.T tx = some ix) (hd : ∀ k, ix.d ≠ .int k)
    (hb : 0 < j.bytes) (hz0 : 0 < j.sz) (hone : ∀ y ∈ ys, ∀ a ∈ y, a.one = true) (hzs : j.zero.cells.size = j.sz) (hH : c.H[m + q]? = some (.tail xs.length j.sz)) (hr : RelV c (.sl (.row m q) j.sz xs) v) (hsrc : SrcOk c j.sz x ys.length ys.flatten) (hyz : ∀ y ∈ ys, y.length = j.sz)
    (hfit : (xs.length + ys.length) * j.bytes ≤ 140737488355328) :
    ∃ v' ι' w', (Builtin.append_ #[ty, tx] ty0 #[v, x]).run E.P c.w = .ok v' w' ∧ Ext c ⟨ι', c.H.set (m + q) (.tail (xs.length + ys.length) j.sz), w'⟩ ∧ HR ⟨ι', c.H.set (m + q) (.tail (xs.length + ys.length) j.sz), w'⟩ ∧
      RelV ⟨ι', c.H.set (m + q) (.tail (xs.length + ys.length) j.sz), w'⟩ (.sl (.row m q) j.sz (xs ++ ys)) v' := by
  obtain ⟨hu, hj⟩ := sliceOf_spec hs
  obtain ⟨dx, hux, hdx⟩ := not_int_of hx hd
  obtain ⟨info, hinfo, hi1, hi2, hi3⟩ := ext_info hj
  have hid := get_lt hH
  cases hv : v with
  | slice a len cap =>
    subst hv
    obtain ⟨hl, hz, hc, ht, olds, ho1, ho2, _, ho4⟩ := olds_of hr
    obtain ⟨news, hn1, hn2, hn3, hn4⟩ := hsrc
    subst hl
    have hsame : ∀ H' : List AObj, H' = c.H.set (m + q) (.tail (xs.length + 0) j.sz) → H' = c.H := fun H' e => by
      rw [e, Nat.add_zero]
      exact set_self hH
    have hat : tailAt c (m + q) j.sz a xs.length cap := by
      rcases ht with hdead | ⟨n, hn, hle, hat⟩
      · rw [hH] at hdead; cases hdead
      · rw [hH] at hn
        injection hn with hn
        injection hn with hn
        exact hat hn
    by_cases hm : ys.length = 0
    · have hy : ys = [] := List.length_eq_zero_iff.1 hm
      subst hy
      have hn0 : news = [] := List.length_eq_zero_iff.1 (by simpa using hn2)
      subst hn0
      have hs0 := hsame _ rfl
      simp only [List.length_nil, List.append_nil]
      rw [hs0]
      refine ⟨.slice a xs.length cap, c.ι, c.w, ?_, Ext.refl c, ho, hr⟩
      rw [run_append_in hu hux hdx hinfo (m := 0) (news := []) (hn3 _ _) (by rw [hi2]; exact hn4 _ _ rfl) (by omega)]
      cases a with
      | none => rfl
      | some p => simp [storeCells]
    · have hzz : ∀ y ∈ xs ++ ys, y.length = j.sz := fun y hy => by
        rcases List.mem_append.1 hy with hy | hy
        · exact hz y hy
        · exact hyz y hy
      by_cases hroom : xs.length + ys.length ≤ cap
      · -- in place
        rcases hat with ⟨_, _, h3⟩ | ⟨b, arr, et, h1, h2, h3, h4, h5⟩
        · omega
        · subst h2
          have hoz : ∀ k u, olds[k]? = some u → arr[k]? = some u := fun k u hk => by
            -- the old cells lie at the block's head
            have hlt : k < xs.length * j.sz := by rw [← ho2]; exact (List.getElem?_eq_some_iff.1 hk).1
            have hf := ho4 E.P c.w rfl
            have hca : CellsAt c.w ⟨b, 0, none⟩ (arr.toList.take (xs.length * j.sz)) := fun k u hk => by
              rw [List.getElem?_take] at hk
              split at hk
              · rw [Array.getElem?_toList] at hk
                have e2 : (⟨b, 0, none⟩ : Addr).add k = ⟨b, k, none⟩ := by
                  unfold Addr.add
                  split
                  · rename_i h0; rw [h0]
                  · simp
                rw [e2]
                exact cell?_of h3 hk
              · simp at hk
            have hlen : (arr.toList.take (xs.length * j.sz)).length = xs.length * j.sz := by
              have := Nat.mul_le_mul_right j.sz hc
              simp only [List.length_take, Array.length_toList]
              omega
            have h6 := run_loadCells (P := E.P) hca
            rw [hlen] at h6
            simp only [Builtin.firstCells] at hf
            rw [h6] at hf
            injection hf with hf
            have hf' : arr.toList.take (xs.length * j.sz) = olds := by simpa using hf
            rw [← hf', List.getElem?_take, if_pos hlt, Array.getElem?_toList] at hk
            exact hk
          have hfits : xs.length * j.sz + news.length ≤ arr.size := by
            rw [hn2, h4, ← Nat.add_mul]
            exact Nat.mul_le_mul_right _ hroom
          have hadd : (⟨b, 0, none⟩ : Addr).add (xs.length * j.sz) = ⟨b, xs.length * j.sz, none⟩ := by
            unfold Addr.add
            split
            · rename_i h0; rw [h0]
            · simp
          obtain ⟨w', arr', hrun, htu, hb', hs', hk'⟩ := run_storeCells (P := E.P) (b := b) (off := xs.length * j.sz) news 0 c.w arr h3 (by omega) (fun u hu => by
            obtain ⟨k, hk⟩ := List.getElem?_of_mem hu
            have hka : k < ys.flatten.length := by rw [hn1.1]; exact (List.getElem?_eq_some_iff.1 hk).1
            have hmem := List.getElem_mem hka
            obtain ⟨y, hy, hya⟩ := List.mem_flatten.1 hmem
            exact (hn1.2 k _ u (List.getElem?_eq_getElem hka) hk).one' (hone y hy _ hya))
          simp only [Nat.add_zero] at hk'
          have hold : ∀ k, k < xs.length * j.sz → arr'[k]? = arr[k]? := fun k hk => by rw [hk' k, if_neg (by omega)]
          have hx1 := Ext.tailIn (n' := xs.length + ys.length) ho hH h1 h3 htu hb' hs' hold (by omega)
          have hhr : HR (c.upd (m + q) (.tail (xs.length + ys.length) j.sz) w') := HR.upd ho hH h1 rfl hx1 htu ⟨arr', et, hb', by rw [hs', h4]; exact Nat.mul_le_mul_right _ hroom⟩
          refine ⟨.slice (some ⟨b, 0, none⟩) (xs.length + ys.length) cap, c.ι, w', ?_, hx1, hhr, ?_⟩
          · rw [run_append_in hu hux hdx hinfo (hn3 _ _) (by rw [hi2]; exact hn4 _ _ rfl) hroom, hi2]
            simp only
            rw [hadd, hrun]
            rfl
          · refine mk_sl (c := c.upd (m + q) (.tail (xs.length + ys.length) j.sz) w') (ws := olds ++ news) (by rw [List.length_append]) hroom hzz ?_ ?_ (fun k u hk => ?_)
            · refine .inr ⟨xs.length + ys.length, (set_get hid).2 (.inl ⟨rfl, rfl⟩), Nat.le_refl _, fun _ => .inr ⟨b, arr', et, h1, rfl, hb', by rw [hs']; exact h4, h5⟩⟩
            · rw [List.flatten_append]
              exact (ho1.append hn1).mono hx1.toExt0
            · have hkl : k < (xs.length + ys.length) * j.sz := by
                have := (List.getElem?_eq_some_iff.1 hk).1
                rw [List.length_append, ho2, hn2, ← Nat.add_mul] at this
                exact this
              refine ⟨cell?_of hb' ?_, ?_⟩
              · rw [hk' k]
                by_cases hc1 : k < xs.length * j.sz
                · rw [if_neg (by omega)]
                  rw [List.getElem?_append_left (by omega)] at hk
                  exact hoz k u hk
                · rw [List.getElem?_append_right (by omega), ho2] at hk
                  have := (List.getElem?_eq_some_iff.1 hk).1
                  rw [if_pos (by omega)]
                  exact hk
              · rintro ⟨k1, x1, g1, g2, g3⟩
                rcases (set_get hid).1 g1 with ⟨rfl, rfl⟩ | ⟨hne, g1⟩
                · have g3' : (xs.length + ys.length) * j.sz ≤ k := g3
                  omega
                · have hl1 : x1.live = true := by cases x1 <;> first | rfl | exact g3.elim
                  exact hne (ho.inj k1 (m + q) b _ _ g1 hH hl1 rfl g2 h1)
      · -- into a new block
        obtain ⟨cap', rest, h1, h2, h3, h4⟩ := run_append_out (P := E.P) (w := c.w) (t := ty) (tx := tx) (ty := ty0) (e := e) (z := j.zero) (base := a) (sLen := xs.length) (sCap := cap) (v := x) (olds := olds) (news := news) hu hux hdx hinfo hi1
          (hn3 _ _) (by rw [hi2]; exact hn4 _ _ rfl) (by rw [hi2]; exact ho4 _ _ rfl) (by omega) (by omega) (by rw [hi3]; exact hfit)
        have hsz : (olds ++ news ++ rest).toArray.size = cap' * j.sz := by
          simp only [List.size_toArray, List.length_append, ho2, hn2, h3, hzs]
          rw [← Nat.add_mul, ← Nat.add_mul]
          congr 1
          omega
        have hHd : c.drew.H[m + q]? = some (.tail xs.length j.sz) := hH
        have hx1 := (Ext.drew c).trans (Ext.moveTail (n' := xs.length + ys.length) (ob := .cells (olds ++ news ++ rest).toArray e) ho.drew hHd (by omega))
        have hhr := HR.moveTail (n' := xs.length + ys.length) (arr := (olds ++ news ++ rest).toArray) (e := e) ho.drew hHd (by omega) (by rw [hsz]; exact Nat.mul_le_mul_right _ h1)
        refine ⟨_, _, _, h4, hx1, hhr, ?_⟩
        refine mk_sl (c := c.drew.moveTail (m + q) (xs.length + ys.length) j.sz (.cells (olds ++ news ++ rest).toArray e)) (ws := olds ++ news) (by rw [List.length_append]) h1 hzz ?_ ?_ (fun k u hk => ?_)
        · refine .inr ⟨xs.length + ys.length, (set_get hid).2 (.inl ⟨rfl, rfl⟩), Nat.le_refl _, fun _ => .inr ⟨c.w.heap.size, _, e, moveTail_ι.2 (.inl ⟨rfl, rfl⟩), rfl, heap_alloc_eq _ _, hsz, h2⟩⟩
        · rw [List.flatten_append]
          exact (ho1.append hn1).mono hx1.toExt0
        · have hkl : k < (xs.length + ys.length) * j.sz := by
            have := (List.getElem?_eq_some_iff.1 hk).1
            rw [List.length_append, ho2, hn2, ← Nat.add_mul] at this
            exact this
          refine ⟨cell?_of (heap_alloc_eq _ _) (by rw [List.getElem?_toArray, List.getElem?_append_left (List.getElem?_eq_some_iff.1 hk).1]; exact hk), ?_⟩
          rintro ⟨k1, x1, g1, g2, g3⟩
          rcases (set_get hid).1 g1 with ⟨rfl, rfl⟩ | ⟨hne, g1⟩
          · have g3' : (xs.length + ys.length) * j.sz ≤ k := g3
            omega
          · rcases moveTail_ι.1 g2 with ⟨e1, _⟩ | ⟨_, g2⟩
            · exact hne e1
            · have := ho.drew.bound _ _ g2
              exact absurd this (Nat.lt_irrefl _)
  | _ => subst hv; cases hr
end Go.Gp
