/- Part of a proof: GpA42, GpA43 -/
import Derived.Test.YtmacdhglhafldaaDoorK13
import Derived.Maps.Own
import Derived.Sort.KeysCollected

/- The keys of a map, sorted: the kit's contract taken over. -/
namespace Go.Gp
open Go.RowKit Go.Proofs
set_option linter.unusedVariables false
set_option linter.unusedSimpArgs false

/-- A call that turns nothing that lay before. -/
theorem Ext.of_below {c : Cfg} {w' : World} (h : HR c) (hb : Below c.w.heap.size c.w w') : Ext c ⟨c.ι, c.H, w'⟩ where
  fz := fun p v hp hf => ⟨(World.cell?_of_block (hb.block _ hp)).trans hf.1, hf.2⟩
  bx := fun _ _ h => h
  tl := fun id n z hn => .inr ⟨n, hn, Nat.le_refl _, fun _ => ⟨rfl, fun b arr e hi ha => ⟨arr, (hb.block b (h.bound _ _ hi)).trans ha, rfl⟩⟩⟩
  dd := fun _ h => h
  sz := fun _ b _ _ ⟨arr, e, fr, h1, h2⟩ => ⟨arr, e, fr, (hb.block b (Array.getElem?_eq_some_iff.1 h1).1).trans h1, h2⟩
  size := hb.size
  os := hb.os
  tape := hb.tape
  output := hb.output
  hlen := Nat.le_refl _
  outer := fun b hlt _ => hb.block b hlt
  nw := fun id b o ho hl hi _ => ⟨id, o, ho, hl, hi⟩
theorem HR.of_below {c : Cfg} {w' : World} (h : HR c) (hb : Below c.w.heap.size c.w w') : HR ⟨c.ι, c.H, w'⟩ where
  dom := h.dom
  ex := h.ex
  obj := fun id b o ho hi hl => (h.obj id b o ho hi hl).mono (Ext.of_below h hb).toExt0 (hb.block b (h.bound _ _ hi))
  inj := h.inj
  bound := fun id b hi => Nat.lt_of_lt_of_le (h.bound id b hi) hb.size

def strA1 : AV → List UInt8
  | .str s => s
  | _ => []
def keysOf (es : List AEntry) : List (List UInt8) := es.map fun e => strA1 e.1
def sortB (ss : List (List UInt8)) : List (List UInt8) := ss.mergeSort fun x y => decide (x ≤ y)

theorem leB_total (a b : List UInt8) : (decide (a ≤ b) || decide (b ≤ a)) = true := by
  rcases List.le_total a b with h | h <;> simp [h]
theorem sortB_pairwise (ss : List (List UInt8)) : (sortB ss).Pairwise fun x y => x ≤ y := by
  have := List.pairwise_mergeSort (le := fun x y : List UInt8 => decide (x ≤ y)) (fun a b c h1 h2 => by simp only [decide_eq_true_eq] at h1 h2 ⊢; exact List.le_trans h1 h2) leB_total ss
  exact this.imp fun h => by simpa using h
theorem sortB_perm (ss : List (List UInt8)) : (sortB ss).Perm ss := List.mergeSort_perm _ _
theorem sortB_unique {xs ys : List (List UInt8)} (h : xs.Perm ys) (hs : xs.Pairwise fun x y => x ≤ y) : xs = sortB ys :=
  List.Perm.eq_of_pairwise (le := fun x y => x ≤ y) (fun a b _ _ h1 h2 => List.le_antisymm h1 h2) hs (sortB_pairwise ys) (h.trans (sortB_perm ys).symm)
theorem sortB_congr {xs ys : List (List UInt8)} (h : xs.Perm ys) : sortB xs = sortB ys := sortB_unique ((sortB_perm xs).trans h) (sortB_pairwise xs)

/-- What the kit says of slices.Sorted at maps.Keys. -/
def SortsKeys (E : Env) (g k kt : Nat) : Prop := ∀ (b nn Bm : Nat) (D0 : DataW Unit) (R : Value → Option (DataW Unit × List MemPlace)) (w : World), Bm < w.heap.size → w.cell? ⟨Bm, 0, none⟩ = some (.map (some b)) → w.ownsMap E.P kt R b nn D0 →
  Maps.size D0 ≤ maxLen → Maps.size D0 * 16 ≤ 140737488355328 →
  Calls E.P g #[.func (.func k) #[] #[.pointer (some ⟨Bm, 0, none⟩)]] w fun e w' => ∃ (v : Value) (ss : List (List UInt8)), e = .returned v ∧ ss.Perm (strKeys D0) ∧
    w'.ownsRow w.heap.size kt 1 v ss.length ((ss.mergeSort (fun x y => decide (x ≤ y))).map encStr) ∧ (v = .slice none 0 0 ↔ ss = []) ∧ Below w.heap.size w w'

theorem CallsA.sortedKeys {E : Env} {g k kt m j m' j' : Nat} {H : List AObj} {es : List AEntry} {clk : Nat} {fn : Func} {code : Code} (hS : SortsKeys E g k kt)
    (hf : E.P.funcs[g]? = some fn) (hb : fn.body = some code) (hn : (fn.name == "runtime.NumGoroutine") = false) (hkt : E.P.underlying kt = some .string)
    (hH : H[m + j]? = some (.cells [.map m' j'])) (hM : H[m' + j']? = some (.map es clk)) (hkeys : ∀ e ∈ es, ∃ s, e.1 = .str s ∧ s.length ≤ 140737488355328) (hnd : (keysOf es).Nodup)
    (hst : (es.map (·.2.2)).Nodup ∧ ∀ e ∈ es, e.2.2 < clk) (hlen : es.length * 16 ≤ 140737488355328) :
    CallsA E g [.func k [.ptr m j 0]] H (Is H (.sl .no 1 ((sortB (keysOf es)).map fun s => [.str s]))) := by
  refine ⟨?_⟩
  intro c vs e1 e2 e3
  subst e1
  have hv : ∃ b0, vs = [.func (.func k) #[] #[.pointer (some ⟨b0, 0, none⟩)]] ∧ boxAt c (m + j) b0 := by
    match vs, e3 with
    | [], h => have := h.1; simp at this
    | [v], h =>
      have h1 := h.head
      cases h1 with
      | func ws hl hr =>
        match ws, hl with
        | [u], _ =>
          have hu := hr 0 _ u rfl rfl
          obtain ⟨b0, rfl, hb0⟩ := ptr_val hu
          exact ⟨b0, rfl, hb0⟩
    | _ :: _ :: _, h => have := h.1; simp at this
  obtain ⟨b0, rfl, hb0⟩ := hv
  have hι0 : c.ι (m + j) = some b0 := hb0.choose_spec.2.2
  obtain ⟨arr, ee, a1, a2, a3⟩ := e2.hr.obj _ _ _ hH hι0 rfl
  obtain ⟨v0, a4, a5⟩ := a3 0 _ rfl
  obtain ⟨b, rfl, hb1⟩ := map_val a5
  obtain ⟨xs, g1, g2⟩ := map_at e2.hr hb1 hM
  have hcell : c.w.cell? ⟨b0, 0, none⟩ = some (.map (some b)) := cell?_of a1 a4
  have hml : maxLen = 9223372036854775807 := rfl
  have hent : ∀ (i : Nat) x, xs.toList[i]? = some x → ∃ s : List UInt8, (keysOf es)[i]? = some s ∧ x.key = .string ⟨s.toArray⟩ ∧ s.length ≤ 140737488355328 ∧ ∃ e, es[i]? = some e ∧ x.born = e.2.2 := fun i x hx => by
    have hlt : i < es.length := by rw [g2.1]; exact (List.getElem?_eq_some_iff.1 hx).1
    have := g2.2 i _ x (List.getElem?_eq_getElem hlt) hx
    obtain ⟨s, hs, hsl⟩ := hkeys _ (List.getElem_mem hlt)
    refine ⟨s, ?_, ?_, hsl, _, List.getElem?_eq_getElem hlt, this.2.2⟩
    · rw [keysOf, List.getElem?_map, List.getElem?_eq_getElem hlt, Option.map_some, hs]; rfl
    · have h1 := this.1
      rw [hs] at h1
      generalize x.key = kv at h1
      cases h1
      rfl
  have hko : ∀ (s : List UInt8), s.length ≤ 140737488355328 → keyOf E.P kt (.string ⟨s.toArray⟩) = some (.string s) := fun s hs => by
    simp only [keyOf, hkt, mapKey]
    have hz : (ByteArray.mk s.toArray).size = s.length := by show s.toArray.size = _; simp
    rw [if_pos (by rw [hz, hml]; omega)]
  let R : Value → Option (DataW Unit × List MemPlace) := fun _ => some (.nil, [])
  have hrd : ∀ (i : Nat) x, xs.toList[i]? = some x → ∃ s, (keysOf es)[i]? = some s ∧ WideElems.rd E.P kt R x = some (.string s, .nil) := fun i x hx => by
    obtain ⟨s, h1, h2, h3, _⟩ := hent i x hx
    refine ⟨s, h1, ?_⟩
    simp [WideElems.rd, h2, hko s h3, R]
  have hkn : (xs.toList.map (·.key)).Nodup := by
    have e1 : xs.toList.map (·.key) = (keysOf es).map fun s => Value.string ⟨s.toArray⟩ := by
      apply List.ext_getElem?
      intro i
      rw [List.getElem?_map, List.getElem?_map]
      cases hx : xs.toList[i]? with
      | none =>
        have : (keysOf es).length ≤ i := by rw [keysOf, List.length_map, g2.1]; exact List.getElem?_eq_none_iff.1 hx
        rw [List.getElem?_eq_none this]; rfl
      | some x =>
        obtain ⟨s, h1, h2, _⟩ := hent i x hx
        rw [h1, Option.map_some, Option.map_some, h2]
    rw [e1]
    have : (keysOf es).Pairwise (· ≠ ·) := hnd
    refine List.pairwise_map.2 (this.imp fun {a b} hne he => hne ?_)
    injection he with he
    injection he with he
    simpa using congrArg Array.toList he
  have hbn : xs.toList.map (·.born) = es.map (·.2.2) := by
    apply List.ext_getElem?
    intro i
    rw [List.getElem?_map, List.getElem?_map]
    cases hx : xs.toList[i]? with
    | none =>
      have : es.length ≤ i := by rw [g2.1]; exact List.getElem?_eq_none_iff.1 hx
      rw [List.getElem?_eq_none this]; rfl
    | some x =>
      obtain ⟨s, h1, h2, _, e, h3, h4⟩ := hent i x hx
      rw [h3, Option.map_some, Option.map_some, h4]
  have hrg : (xs.toList.map (WideElems.rg E.P kt R)).map (fun p => strOf p.1) = keysOf es := by
    apply List.ext_getElem?
    intro i
    rw [List.getElem?_map, List.getElem?_map]
    cases hx : xs.toList[i]? with
    | none =>
      have : (keysOf es).length ≤ i := by rw [keysOf, List.length_map, g2.1]; exact List.getElem?_eq_none_iff.1 hx
      rw [List.getElem?_eq_none this]; rfl
    | some x =>
      obtain ⟨s, h1, h2⟩ := hrd i x hx
      rw [h1, Option.map_some, Option.map_some, WideElems.rg, h2]
      rfl
  have hown : c.w.ownsMap E.P kt R b xs.size (.map ((xs.toList.map (WideElems.rg E.P kt R)).foldr DataW.insert [])) := by
    refine ⟨xs, clk, g1, ⟨?_, ⟨fun x hx => ?_, by rw [hbn]; exact hst.1, hkn⟩, fun x hx => ?_⟩, Nat.le_refl _, rfl⟩
    · have : es.length = xs.size := by simpa using g2.1
      rw [hml]; omega
    · have : x.born ∈ xs.toList.map (·.born) := List.mem_map.2 ⟨x, hx, rfl⟩
      rw [hbn] at this
      obtain ⟨e, he, h⟩ := List.mem_map.1 this
      rw [← h]; exact hst.2 e he
    · obtain ⟨i, hi⟩ := List.getElem?_of_mem hx
      obtain ⟨s, _, h2⟩ := hrd i x hi
      exact ⟨_, h2⟩
  have hperm : (strKeys (.map ((xs.toList.map (WideElems.rg E.P kt R)).foldr DataW.insert []) : DataW Unit)).Perm (keysOf es) := by
    rw [← hrg]
    exact (WideShapes.sorted_perm _).map _
  have hsz : Maps.size (.map ((xs.toList.map (WideElems.rg E.P kt R)).foldr DataW.insert []) : DataW Unit) = es.length := by
    have := hperm.length_eq
    rw [keysOf, List.length_map] at this
    rw [← this]
    simp [strKeys, Maps.size]
  have hcall := hS b xs.size b0 _ R c.w (block_lt a1) hcell hown (by rw [hsz, hml]; omega) (by rw [hsz]; exact hlen)
  rw [run_callFunc_body hf hb hn]
  refine Calls.mono hcall ?_
  rintro e w' ⟨v, ss, rfl, hp, hrow, hnil, hbel⟩
  have hss : ss.mergeSort (fun x y => decide (x ≤ y)) = sortB (keysOf es) := sortB_congr (hp.trans hperm)
  rw [hss] at hrow
  have hX := Ext.of_below e2.hr hbel
  have hR := e2.hr.of_below hbel
  refine ⟨c.ι, c.H, .ret (.sl .no 1 ((sortB (keysOf es)).map fun s => [.str s])), hX, e2.step hX hR, ?_, rfl, rfl⟩
  show RelV ⟨c.ι, c.H, w'⟩ _ v
  obtain ⟨hl, hrow⟩ := hrow
  simp only [List.length_map, Nat.mul_one] at hl
  rcases hrow with ⟨rfl, h0⟩ | ⟨g0, cap, cur, rfl, hg1, hg2, hg3, hg4, hg5, hg6⟩
  · rw [h0] at hl
    have : sortB (keysOf es) = [] := List.length_eq_zero_iff.1 hl
    rw [this]
    exact .sl (fun _ _ => undef) rfl (Nat.le_refl _) (by simp) trivial (fun i j hi => by simp at hi) (fun i j l e h => by simp at h)
  · have hcur : ∀ i, i < ss.length → ∃ s : List UInt8, (sortB (keysOf es))[i]? = some s ∧ cur[i]? = some (encStr s) := fun i hi => by
      have hlt : i < (sortB (keysOf es)).length := by omega
      refine ⟨_, List.getElem?_eq_getElem hlt, ?_⟩
      have := congrArg (fun l => l[i]?) hg6
      simp only [Nat.mul_one, List.getElem?_take, if_pos hi, Array.getElem?_toList, List.getElem?_map, List.getElem?_eq_getElem hlt, Option.map_some] at this
      exact this
    refine .sl (fun i _ => (cur[i]?).getD undef) (by rw [List.length_map]; exact hl) hg3 (by simp) trivial (fun i q hi hq => ?_) (fun i q l e h1 h2 => ?_)
    · obtain ⟨s, h1, h2⟩ := hcur i hi
      refine ⟨⟨g0, 0, none⟩, rfl, rfl, ?_, ?_⟩
      · have hq0 : q = 0 := by omega
        subst hq0
        have hadd : (⟨g0, 0, none⟩ : Addr).add (i * 1 + 0) = ⟨g0, i, none⟩ := by
          unfold Addr.add
          split
          · rename_i h0; simp at h0; subst h0; rfl
          · simp
        rw [hadd, h2]
        exact cell?_of hg2 h2
      · rintro ⟨id, o, h3, h4, _⟩
        have h5 := e2.hr.bound _ _ h4
        have h6 : ((⟨g0, 0, none⟩ : Addr).add (i * 1 + q)).block = g0 := by unfold Addr.add; split <;> rfl
        rw [h6] at h5
        omega
    · rw [List.getElem?_map] at h1
      cases hs : (sortB (keysOf es))[i]? with
      | none => rw [hs] at h1; cases h1
      | some s =>
        rw [hs] at h1
        injection h1 with h1
        subst h1
        have hi : i < ss.length := by have := (List.getElem?_eq_some_iff.1 hs).1; omega
        obtain ⟨s', h3, h4⟩ := hcur i hi
        rw [hs] at h3
        injection h3 with h3
        subst h3
        rw [h4]
        rcases q with _ | q
        · injection h2 with h2
          subst h2
          exact .str
        · cases h2
end Go.Gp

/- Cells of arrays at a computed place; words of 32 bits. -/
namespace Go.Gp
open Go.RowKit
set_option linter.unusedVariables false
set_option linter.unusedSimpArgs false

section
variable {E : Env} {ro : Option Nat} {n : Nat} {K : Kont} {t : Slots} {H H' H1 L X : List AObj} {ops : Array Oper} {o : Oper} {l rest : List Oper} {d : Nat} {av : AV}

theorem getL {H L : List AObj} {k : Nat} {o : AObj} (h : H[k]? = some o) : (H ++ L)[k]? = some o := by rw [List.getElem?_append_left (get_lt h)]; exact h
theorem setL {H L : List AObj} {k : Nat} {o o' : AObj} (h : H[k]? = some o) : (H ++ L).set k o' = H.set k o' ++ L := List.set_append_left _ _ (get_lt h)

theorem P1.elemN (q : Nat) {ty m : Nat} {x ix : Operand} {j : TI} {p : AV} {k : IntKind} {i : Int} (hop : o.op = .indexAddr ty x ix)
    (hs : arrayOf E.T ty = some (m, j)) (hx : evalA E.G t x = p) (hi : evalA E.G t ix = .int k i) (hq : i = (q : Nat)) (h1 : q < m) (hl : addrAdd (q * j.sz) p = some av) : P1 E n X X o t av := by
  subst hq
  exact .elemA hop hs hx hi (Int.natCast_nonneg q) (by omega) (by simpa using hl)
theorem P1.elemP (q : Nat) {ty m m' q' : Nat} {x ix : Operand} {j : TI} {k : IntKind} {i : Int} (hop : o.op = .indexAddr ty x ix)
    (hs : arrayOf E.T ty = some (m, j)) (hx : evalA E.G t x = .ptr m' q' 0) (hi : evalA E.G t ix = .int k i) (hz : j.sz = 1) (hq : i = (q : Nat)) (h1 : q < m) : P1 E n X X o t (.ptr m' q' q) :=
  .elemN q hop hs hx hi hq h1 (by rw [hz]; simp [addrAdd])
theorem P1.elemR (q : Nat) {ty m : Nat} {x ix : Operand} {j : TI} {cs : List AV} {k : IntKind} {i : Int} (hop : o.op = .indexAddr ty x ix)
    (hs : arrayOf E.T ty = some (m, j)) (hx : evalA E.G t x = .rp cs) (hi : evalA E.G t ix = .int k i) (hz : j.sz = 1) (hq : i = (q : Nat)) (h1 : q < m) : P1 E n X X o t (.rp (cs.drop q)) :=
  .elemN q hop hs hx hi hq h1 (by rw [hz]; simp [addrAdd])
theorem P1.loadN {ty m j off : Nat} {i : TI} {p : Operand} {cs : List AV} (hop : o.op = .load ty p) (hp : evalA E.G t p = .ptr m j off) (hL : X[m + j]? = some (.cells cs)) (hi : lookT E.T ty = some i) (hz : i.sz = 1) (ha : i.d.agg = false)
    (hv : cs[off]? = some av) : P1 E n X X o t av := by
  have hlt : off < cs.length := (List.getElem?_eq_some_iff.1 hv).1
  refine .loadAt hop hp hL hi ?_ ?_
  · rw [hz]; exact Nat.ble_eq_true_of_le hlt
  · rw [varA, ha, List.getElem?_drop]; simpa using hv
theorem P1.loadR {ty : Nat} {i : TI} {p : Operand} {cs : List AV} (hop : o.op = .load ty p) (hp : evalA E.G t p = .rp cs) (hi : lookT E.T ty = some i) (hz : i.sz = 1) (ha : i.d.agg = false)
    (hv : cs[0]? = some av) : P1 E n X X o t av := by
  have hlt : 0 < cs.length := (List.getElem?_eq_some_iff.1 hv).1
  have h : P1 E n (X ++ []) (X ++ []) o t av := .op (by
    have hle : Nat.ble 1 cs.length = true := Nat.ble_eq_true_of_le hlt
    have h1 : loadA ([] : List AObj) i (.rp cs) = some av := by
      simp only [loadA, hz, hle, cond_true, varA, ha, cond_false]
      exact hv
    rw [hop]
    simp only [valA, hi, hp, h1]) (by rw [hop]; simp only [baseN, hp, ptrBase])
  simpa using h
theorem P1.indexN (q : Nat) {ty m : Nat} {x ix : Operand} {j : TI} {cs : List AV} {k : IntKind} {i : Int} (hop : o.op = .index ty x ix)
    (hs : arrayOf E.T ty = some (m, j)) (hx : evalA E.G t x = .agg cs) (hi : evalA E.G t ix = .int k i) (hq : i = (q : Nat)) (h1 : q < m) (hz : j.sz = 1) (ha : j.d.agg = false) (hv : cs[q]? = some av) : P1 E n X X o t av := by
  subst hq
  refine .indexA hop hs hx hi (Int.natCast_nonneg q) (by omega) ?_
  rw [partA, ha, hz]
  simpa using hv

theorem P1.shlN (q : Nat) {ty : Nat} {x y : Operand} {yt : TypeId} {k k' : IntKind} {p i : Int} (hop : o.op = .binOp .shl ty x y yt) (hx : evalA E.G t x = .int k p) (hy : evalA E.G t y = .int k' i) (hq : i = (q : Nat)) : P1 E n X X o t (.int k (k.wrap (p * 2 ^ min q k.bits))) := by
  have h := P1.shl (E := E) (n := n) (H := X) (t := t) hop hx hy (by rw [hq]; exact Int.natCast_nonneg q)
  have e : i.toNat = q := by rw [hq]; exact Int.toNat_natCast q
  rw [e] at h
  exact h
theorem P1.shrN (q : Nat) {ty : Nat} {x y : Operand} {yt : TypeId} {k k' : IntKind} {p i : Int} (hop : o.op = .binOp .shr ty x y yt) (hx : evalA E.G t x = .int k p) (hy : evalA E.G t y = .int k' i) (hq : i = (q : Nat)) : P1 E n X X o t (.int k (p.fdiv (2 ^ min q k.bits))) := by
  have h := P1.shr (E := E) (n := n) (H := X) (t := t) hop hx hy (by rw [hq]; exact Int.natCast_nonneg q)
  have e : i.toNat = q := by rw [hq]; exact Int.toNat_natCast q
  rw [e] at h
  exact h

theorem putA_one {cs : List AV} {off : Nat} {v : AV} (h : off < cs.length) : putA cs off [v] = cs.set off v := by
  apply List.ext_getElem?
  intro k
  rw [putA_get _ _ _ (by simp; omega), List.getElem?_set]
  by_cases hk : off = k
  · subst hk
    rw [if_pos (by simp), if_pos rfl, if_pos h, Nat.sub_self]
    rfl
  · rw [if_neg (by simp; omega), if_neg hk]

theorem U1.storeN {ty m j off : Nat} {i : TI} {p x : Operand} {cs : List AV} {v : AV} (hop : o.op = .store ty p x) (hp : evalA E.G t p = .ptr m j off) (hL : X[m + j]? = some (.cells cs)) (hx : evalO E.G t x = some v) (hc : cellsA v = some [v]) (hone : v.one = true)
    (hi : lookT E.T ty = some i) (hz : i.sz = 1) (hle : off < cs.length) : U1 E n X (X.set (m + j) (.cells (cs.set off v))) o t :=
  ⟨fun cc e => (by rw [hop] at e; cases e), fun c a hH ho s => by
    have hr := cellsA_rel (eval_rel ho s x) (by rw [evalO_eq hx]; exact hc)
    have hpr := eval_rel ho s p
    rw [hp] at hpr
    generalize hv : a.eval p = v' at hpr
    cases hpr with
    | ptr hb =>
      obtain ⟨o', h1, h2, h3⟩ := hb
      have hcs : c.H[m + j]? = some (.cells cs) := by rw [hH]; exact hL
      obtain ⟨w', hrun, hx1, hh⟩ := store_sound (as := [v]) (off := off) ho.hr hcs h3 hi hr (by simpa using hone) (by rw [hz]; rfl) (by simp; omega)
      unfold Cfg.upd at hx1 hh
      rw [hH, putA_one hle] at hx1 hh
      refine ⟨_, w', ?_, hx1, hh⟩
      simp [execOp, hop, hv, hrun]⟩

/-- The same, in one of the activation's own boxes. -/
theorem U1.storeL {ty j off : Nat} {i : TI} {p x : Operand} {cs : List AV} {v : AV} (hop : o.op = .store ty p x) (hp : evalA E.G t p = .ptr H.length j off) (hL : L[j]? = some (.cells cs)) (hx : evalO E.G t x = some v) (hc : cellsA v = some [v]) (hone : v.one = true)
    (hi : lookT E.T ty = some i) (hz : i.sz = 1) (hle : off < cs.length) : U1 E n (H ++ L) (H ++ L.set j (.cells (cs.set off v))) o t := by
  have h := U1.storeN (X := H ++ L) (E := E) (n := n) hop hp (app_get rfl hL) hx hc hone hi hz hle
  have e : (H ++ L).set (H.length + j) (.cells (cs.set off v)) = H ++ L.set j (.cells (cs.set off v)) := by rw [List.set_append_right _ _ (by omega)]; simp
  rw [e] at h
  exact h

/-- The same, in a box that came in. -/
theorem U1.storeB {ty m j off : Nat} {i : TI} {p x : Operand} {cs : List AV} {v : AV} (hop : o.op = .store ty p x) (hp : evalA E.G t p = .ptr m j off) (hL : H[m + j]? = some (.cells cs)) (hx : evalO E.G t x = some v) (hc : cellsA v = some [v]) (hone : v.one = true)
    (hi : lookT E.T ty = some i) (hz : i.sz = 1) (hle : off < cs.length) : U1 E n (H ++ L) (H.set (m + j) (.cells (cs.set off v)) ++ L) o t := by
  have h := U1.storeN (X := H ++ L) (E := E) (n := n) hop hp (getL hL) hx hc hone hi hz hle
  rw [setL hL] at h
  exact h
/-- A whole array or struct is read, written. -/
theorem P1.loadG {ty m j : Nat} {i : TI} {p : Operand} {cs : List AV} (hop : o.op = .load ty p) (hp : evalA E.G t p = .ptr m j 0) (hL : X[m + j]? = some (.cells cs)) (hi : lookT E.T ty = some i) (ha : i.d.agg = true) (hl : cs.length = i.sz) : P1 E n X X o t (.agg cs) :=
  .loadAt hop hp hL hi (by rw [hl]; exact Nat.ble_eq_true_of_le (by omega)) (by rw [varA_eq, ha]; simp [← hl])
theorem putA_all {cs as : List AV} (h : as.length = cs.length) : putA cs 0 as = as := by
  apply List.ext_getElem?
  intro k
  rw [putA_get _ _ _ (by omega)]
  by_cases hk : k < as.length
  · rw [if_pos (by omega), Nat.sub_zero]
  · rw [if_neg (by omega), List.getElem?_eq_none (by omega), List.getElem?_eq_none (by omega)]
theorem U1.storeG {ty m j : Nat} {i : TI} {p x : Operand} {cs as : List AV} (hop : o.op = .store ty p x) (hp : evalA E.G t p = .ptr m j 0) (hL : X[m + j]? = some (.cells cs)) (hx : evalO E.G t x = some (.agg as)) (hone : ∀ a ∈ as, a.one = true)
    (hi : lookT E.T ty = some i) (hz : as.length = i.sz) (hle : as.length = cs.length) : U1 E n X (X.set (m + j) (.cells as)) o t :=
  ⟨fun cc e => (by rw [hop] at e; cases e), fun c a hH ho s => by
    have hr := cellsA_rel (eval_rel ho s x) (by rw [evalO_eq hx]; rfl)
    have hpr := eval_rel ho s p
    rw [hp] at hpr
    generalize hv : a.eval p = v' at hpr
    cases hpr with
    | ptr hb =>
      obtain ⟨o', h1, h2, h3⟩ := hb
      have hcs : c.H[m + j]? = some (.cells cs) := by rw [hH]; exact hL
      obtain ⟨w', hrun, hx1, hh⟩ := store_sound (as := as) (off := 0) ho.hr hcs h3 hi hr hone hz (by omega)
      unfold Cfg.upd at hx1 hh
      rw [hH, putA_all hle] at hx1 hh
      refine ⟨_, w', ?_, hx1, hh⟩
      simp [execOp, hop, hv, hrun]⟩
theorem U1.storeGL {ty j : Nat} {i : TI} {p x : Operand} {cs as : List AV} (hop : o.op = .store ty p x) (hp : evalA E.G t p = .ptr H.length j 0) (hL : L[j]? = some (.cells cs)) (hx : evalO E.G t x = some (.agg as)) (hone : ∀ a ∈ as, a.one = true)
    (hi : lookT E.T ty = some i) (hz : as.length = i.sz) (hle : as.length = cs.length) : U1 E n (H ++ L) (H ++ L.set j (.cells as)) o t := by
  have h := U1.storeG (X := H ++ L) (E := E) (n := n) hop hp (app_get rfl hL) hx hone hi hz hle
  have e : (H ++ L).set (H.length + j) (.cells as) = H ++ L.set j (.cells as) := by rw [List.set_append_right _ _ (by omega)]; simp
  rw [e] at h
  exact h
theorem resA_agg {T : List (Nat × TI)} {a ty m j : Nat} {cs : List AV} {i : TI} (hp : look t a = .ptr m j 0) (hL : L[j]? = some (.cells cs)) (hi : lookT T ty = some i) (ha : i.d.agg = true) (hl : cs.length = i.sz) : resA L T t (.cell a ty) = some (.agg cs) := by
  have hb : Nat.beq cs.length i.sz = true := by rw [hl]; exact Nat.beq_refl _
  simp only [resA, hp, hi, hL, ha, hb, cond_true]
theorem resL_one {T : List (Nat × TI)} {r : ResultVar} {x : AV} (h : resA L T t r = some x) : resL L T t [r] = some [x] := by simp only [resL, h]
theorem WpOps.u1 (hw : wantedA ops t o = some true) (hd : o.dst = none) (h : U1 E n H H1 o t) (hk : WpOps E ro n ops rest K t H1) : WpOps E ro n ops (o :: rest) K t H := .unit hw hd h.nd h.out hk
end

/-! ### Words -/
abbrev u32 (w : UInt32) : AV := .int .u32 (w.toNat : Int)
theorem wrap32 {x : Int} (h1 : 0 ≤ x) (h2 : x < 4294967296) : IntKind.u32.wrap x = x := by
  simp only [IntKind.wrap, IntKind.bits, IntKind.signed]
  simp
  omega
theorem wrap32m (x : Int) : IntKind.u32.wrap x = x % 4294967296 := by
  simp only [IntKind.wrap, IntKind.bits, IntKind.signed]
  simp
theorem u32_lt (a : UInt32) : a.toNat < 4294967296 := a.toNat_lt
theorem bv32 (a : UInt32) : BitVec.ofInt IntKind.u32.bits (a.toNat : Int) = a.toBitVec := by
  apply BitVec.eq_of_toNat_eq
  have h := u32_lt a
  show (BitVec.ofInt 32 (a.toNat : Int)).toNat = a.toNat
  rw [BitVec.toNat_ofInt]
  omega
theorem bvN (x : BitVec IntKind.u32.bits) : IntKind.u32.wrap ((x.toNat : Nat) : Int) = ((UInt32.ofBitVec x).toNat : Int) := by
  have h : x.toNat < 2 ^ 32 := x.isLt
  rw [wrap32 (by omega) (by omega)]
  rfl
theorem w32_add (a b : UInt32) : IntKind.u32.wrap ((a.toNat : Int) + (b.toNat : Int)) = ((a + b).toNat : Int) := by
  rw [wrap32m, UInt32.toNat_add]; omega
theorem w32_mul (a b : UInt32) : IntKind.u32.wrap ((a.toNat : Int) * (b.toNat : Int)) = ((a * b).toNat : Int) := by
  rw [wrap32m, UInt32.toNat_mul]; simp
theorem w32_xor (a b : UInt32) : IntKind.u32.wrap (((BitVec.ofInt IntKind.u32.bits (a.toNat : Int) ^^^ BitVec.ofInt IntKind.u32.bits (b.toNat : Int)).toNat : Nat) : Int) = ((a ^^^ b).toNat : Int) := by
  rw [bvN, bv32, bv32]; rfl
theorem w32_and (a b : UInt32) : IntKind.u32.wrap (((BitVec.ofInt IntKind.u32.bits (a.toNat : Int) &&& BitVec.ofInt IntKind.u32.bits (b.toNat : Int)).toNat : Nat) : Int) = ((a &&& b).toNat : Int) := by
  rw [bvN, bv32, bv32]; rfl
theorem w32_or (a b : UInt32) : IntKind.u32.wrap (((BitVec.ofInt IntKind.u32.bits (a.toNat : Int) ||| BitVec.ofInt IntKind.u32.bits (b.toNat : Int)).toNat : Nat) : Int) = ((a ||| b).toNat : Int) := by
  rw [bvN, bv32, bv32]; rfl
theorem w32_not (a : UInt32) : IntKind.u32.wrap (((BitVec.ofInt IntKind.u32.bits (if IntKind.u32.signed then -1 else IntKind.u32.max) ^^^ BitVec.ofInt IntKind.u32.bits (a.toNat : Int)).toNat : Nat) : Int) = ((~~~a).toNat : Int) := by
  have e : BitVec.ofInt IntKind.u32.bits (if IntKind.u32.signed then -1 else IntKind.u32.max) = BitVec.allOnes 32 := by rfl
  rw [bvN, bv32, e]
  have : (BitVec.allOnes 32 ^^^ a.toBitVec) = ~~~ a.toBitVec := BitVec.allOnes_xor
  show ((UInt32.ofBitVec (BitVec.allOnes 32 ^^^ a.toBitVec)).toNat : Int) = _
  rw [this]; rfl
theorem w32_byte (b : UInt8) : IntKind.u32.wrap (b.toNat : Int) = ((b.toUInt32).toNat : Int) := by
  have := b.toNat_lt
  rw [wrap32 (by omega) (by omega)]; simp
/-- A word to a byte. -/
theorem w32_low (a : UInt32) : IntKind.u8.wrap (a.toNat : Int) = ((a.toUInt8).toNat : Int) := by
  rw [u8wrap, UInt32.toNat_toUInt8]
  simp

/-- Shifts by a number below 32. -/
def shl32 (a : UInt32) (k : Nat) : UInt32 := UInt32.ofNat (a.toNat * 2 ^ k)
def shr32 (a : UInt32) (k : Nat) : UInt32 := UInt32.ofNat (a.toNat / 2 ^ k)
theorem shl32_nat (a : UInt32) (k : Nat) : (shl32 a k).toNat = a.toNat * 2 ^ k % 4294967296 := by simp [shl32]
theorem shr32_nat (a : UInt32) (k : Nat) : (shr32 a k).toNat = a.toNat / 2 ^ k := by
  have h := u32_lt a
  have : a.toNat / 2 ^ k ≤ a.toNat := Nat.div_le_self _ _
  simp only [shr32, UInt32.toNat_ofNat']
  exact Nat.mod_eq_of_lt (by omega)
theorem w32_shl (a : UInt32) (k : Nat) (hk : k ≤ 32) : IntKind.u32.wrap ((a.toNat : Int) * 2 ^ min k IntKind.u32.bits) = ((shl32 a k).toNat : Int) := by
  have : min k IntKind.u32.bits = k := Nat.min_eq_left hk
  rw [this, wrap32m, shl32_nat]
  simp
theorem w32_shr (a : UInt32) (k : Nat) (hk : k ≤ 32) : ((a.toNat : Int)).fdiv (2 ^ min k IntKind.u32.bits) = ((shr32 a k).toNat : Int) := by
  have : min k IntKind.u32.bits = k := Nat.min_eq_left hk
  rw [this, shr32_nat, Int.fdiv_eq_ediv_of_nonneg _ (Int.pow_nonneg (by decide))]
  simp
end Go.Gp
