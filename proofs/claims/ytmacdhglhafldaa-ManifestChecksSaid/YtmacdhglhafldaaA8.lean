/- append, make, composite literals, slicing. -/
import Derived.Test.YtmacdhglhafldaaA7
namespace Go.Gp
open Go.RowKit
set_option linter.unusedVariables false
set_option linter.unusedSimpArgs false

/-! ### The cells of a slice that is read -/
theorem flat_cells {c : Cfg} {z : Nat} : ∀ (ys : List (List AV)) (vs : Nat → Nat → Value), (∀ x ∈ ys, x.length = z) → (∀ (i j : Nat) l e, ys[i]? = some l → l[j]? = some e → RelV c e (vs i j)) →
    ∃ ws, RelL c ys.flatten ws ∧ ws.length = ys.length * z ∧ ∀ (i j : Nat), i < ys.length → j < z → ws[i * z + j]? = some (vs i j)
  | [], vs, _, _ => ⟨[], RelL.nil c, by simp, fun i j h => by simp at h⟩
  | y :: ys, vs, hz, hr => by
    obtain ⟨ws, h1, h2, h3⟩ := flat_cells ys (fun i j => vs (i + 1) j) (fun x hx => hz x (List.mem_cons_of_mem _ hx)) (fun i j l e a b => hr (i + 1) j l e (by simpa using a) b)
    have hy : y.length = z := hz y List.mem_cons_self
    have h0 : RelL c y ((List.range z).map (vs 0)) := by
      refine ⟨by simp [hy], fun j a v ha hv => ?_⟩
      have hj : j < z := by rw [← hy]; exact (List.getElem?_eq_some_iff.1 ha).1
      rw [List.getElem?_map, List.getElem?_range hj] at hv
      simp only [Option.map_some, Option.some.injEq] at hv
      subst hv
      exact hr 0 j y a rfl ha
    refine ⟨(List.range z).map (vs 0) ++ ws, by rw [List.flatten_cons]; exact h0.append h1, by simp [h2, Nat.add_mul]; omega, fun i j hi hj => ?_⟩
    cases i with
    | zero =>
      rw [List.getElem?_append_left (by simp; omega), Nat.zero_mul, Nat.zero_add, List.getElem?_map, List.getElem?_range hj]
      rfl
    | succ i =>
      rw [List.getElem?_append_right (by simp [Nat.add_mul]; omega)]
      have : (i + 1) * z + j - ((List.range z).map (vs 0)).length = i * z + j := by simp [Nat.add_mul]; omega
      rw [this]
      exact h3 i j (by simpa using hi) hj

/-- The cells that an append or a copy takes from its source: the value, in any world that reads alike. -/
def SrcOk (c : Cfg) (z : Nat) (v : Value) (m : Nat) (as : List AV) : Prop :=
  ∃ ws, RelL c as ws ∧ ws.length = m * z ∧ (∀ P w, (Builtin.lenOf v).run P w = .ok m w) ∧ (∀ (P : Program) (w : World), w.heap = c.w.heap → (Builtin.firstCells z m v).run P w = .ok ws.toArray w)

theorem cell?_heap {w w' : World} (h : w'.heap = w.heap) (p : Addr) : w'.cell? p = w.cell? p := by unfold World.cell?; rw [h]

theorem src_sl {c : Cfg} {t : Tag} {z : Nat} {ys : List (List AV)} {v : Value} (hr : RelV c (.sl t z ys) v) : SrcOk c z v ys.length ys.flatten := by
  cases hr with
  | sl vs hl hc hz ht hf hr =>
    rename_i a len cap
    subst hl
    obtain ⟨ws, h1, h2, h3⟩ := flat_cells ys vs hz hr
    refine ⟨ws, h1, h2, fun P w => by simp [Builtin.lenOf], fun P w hw => ?_⟩
    by_cases h0 : ys.length * z = 0
    · have : ws = [] := List.length_eq_zero_iff.1 (by omega)
      subst this
      cases a with
      | none => simp [Builtin.firstCells]
      | some p => simp [Builtin.firstCells, loadCells, h0, loadCellsFrom]
    · have hpos : 0 < ys.length ∧ 0 < z := ⟨Nat.pos_of_ne_zero (fun e => by simp [e] at h0), Nat.pos_of_ne_zero (fun e => by simp [e] at h0)⟩
      obtain ⟨p, e1, _, _⟩ := hf 0 0 hpos.1 hpos.2
      subst e1
      have hca : CellsAt w p ws := fun k u hk => by
        have hlt : k < ys.length * z := by rw [← h2]; exact (List.getElem?_eq_some_iff.1 hk).1
        have hi : k / z < ys.length := Nat.div_lt_of_lt_mul (by rw [Nat.mul_comm]; exact hlt)
        have hj : k % z < z := Nat.mod_lt _ hpos.2
        have hk' : k / z * z + k % z = k := by rw [Nat.mul_comm]; exact Nat.div_add_mod k z
        have h4 := h3 _ _ hi hj
        rw [hk', hk] at h4
        injection h4 with h4
        subst h4
        obtain ⟨ad, e2, _, e3⟩ := hf _ _ hi hj
        injection e2 with e2
        subst e2
        rw [hk'] at e3
        rw [cell?_heap hw]
        exact e3.1
      have := run_loadCells (P := P) hca
      rw [h2] at this
      simpa [Builtin.firstCells] using this

def strCells (s : List UInt8) : List AV := s.map fun b => .int .u8 b.toNat

theorem src_str {c : Cfg} {s : List UInt8} {v : Value} (hr : RelV c (.str s) v) : SrcOk c 1 v s.length (strCells s) := by
  cases hr
  refine ⟨s.map fun b => .int .u8 b.toNat, ⟨by simp [strCells], fun i a v ha hv => ?_⟩, by simp, fun P w => ?_, fun P w _ => ?_⟩
  · simp only [strCells, List.getElem?_map] at ha hv
    cases hs : s[i]? with
    | none => rw [hs] at ha; simp at ha
    | some b => rw [hs] at ha hv; simp at ha hv; subst ha; subst hv; exact .int
  · simp [Builtin.lenOf]
    rfl
  · have e : ((ByteArray.mk s.toArray).extract 0 s.length).data = s.toArray := by
      simp [ByteArray.extract, ByteArray.copySlice]
    simp only [Builtin.firstCells, e, Sem.run_pure]
    congr 1
    simp

/-- What is appended, as abstract elements. -/
def srcA (z : Nat) : AV → Option (List (List AV))
  | .sl _ z' ys => bif Nat.beq z' z || ys.isEmpty then some ys else none
  | .str s => bif Nat.beq z 1 then some (s.map fun b => [.int .u8 b.toNat]) else none
  | _ => none

theorem srcA_ok {c : Cfg} {z : Nat} {x : AV} {v : Value} {ys : List (List AV)} (h : srcA z x = some ys) (hr : RelV c x v) : SrcOk c z v ys.length ys.flatten ∧ ∀ y ∈ ys, y.length = z := by
  unfold srcA at h
  split at h
  · rename_i t z' ys'
    cases hb : (Nat.beq z' z || ys'.isEmpty) with
    | false => rw [hb] at h; simp at h
    | true =>
      rw [hb] at h
      simp only [cond_true, Option.some.injEq] at h
      subst h
      simp only [Bool.or_eq_true] at hb
      rcases hb with hb | hb
      · have := Nat.eq_of_beq_eq_true hb
        subst this
        refine ⟨src_sl hr, ?_⟩
        cases hr with
        | sl vs hl hc hz ht hf hr => exact hz
      · have he : ys' = [] := List.isEmpty_iff.1 hb
        subst he
        refine ⟨?_, by simp⟩
        cases hr with
        | sl vs hl hc hz ht hf hr =>
          rename_i a len cap
          have hl : len = 0 := by simpa using hl.symm
          subst hl
          refine ⟨[], RelL.nil c, by simp, fun P w => by simp [Builtin.lenOf], fun P w _ => ?_⟩
          cases a with
          | none => simp [Builtin.firstCells]
          | some p => simp [Builtin.firstCells, loadCells, loadCellsFrom]
  · rename_i s
    cases hb : Nat.beq z 1 with
    | false => rw [hb] at h; simp at h
    | true =>
      have hz := Nat.eq_of_beq_eq_true hb
      subst hz
      rw [hb] at h
      simp only [cond_true, Option.some.injEq] at h
      subst h
      refine ⟨?_, by simp⟩
      have := src_str hr
      have e : (s.map fun b => [AV.int .u8 b.toNat]).flatten = strCells s := by
        unfold strCells
        clear this hr
        induction s with
        | nil => rfl
        | cons b s ih => simp [ih]
      rw [e]
      simpa using this
  · simp at h

/-! ### The run of an append -/
theorem notInt {d : TypeDesc} (h : ∀ k, d ≠ .int k) : (match d with | .int _ => true | _ => false) = false := by
  cases d <;> first | rfl | exact absurd rfl (h _)

section run
variable {P : Program} {w : World}

theorem run_append_in {t tx ty e : TypeId} {i : TypeInfo} {d : TypeDesc} (ht : P.underlying t = some (.slice e)) (hx : P.underlying tx = some d) (hd0 : ∀ k, d ≠ .int k) (hi : P.info? e = some i)
    {base : Option Addr} {sLen sCap m : Nat} {v : Value} {news : List Value} (hl : (Builtin.lenOf v).run P w = .ok m w) (hn : (Builtin.firstCells i.size m v).run P w = .ok news.toArray w) (hroom : sLen + m ≤ sCap) :
    (Builtin.append_ #[t, tx] ty #[.slice base sLen sCap, v]).run P w = (match base with
      | some a => ((storeCells (a.add (sLen * i.size)) news).run P w).andThen fun _ w' => .ok (.slice base (sLen + m) sCap) w'
      | none => .ok (.slice none (sLen + m) sCap) w) := by
  have hd := notInt hd0
  cases base with
  | none => simp [Builtin.append_, run_underlying ht, run_underlying hx, hd, sizeOf, typeInfo, hi, hl, hroom, hn]
  | some a => simp [Builtin.append_, run_underlying ht, run_underlying hx, hd, sizeOf, typeInfo, hi, hl, hroom, hn]

theorem run_append_out {t tx ty e : TypeId} {i : TypeInfo} {d : TypeDesc} {z : Value} (ht : P.underlying t = some (.slice e)) (hx : P.underlying tx = some d) (hd0 : ∀ k, d ≠ .int k) (hi : P.info? e = some i) (hz : i.zero = some z)
    {base : Option Addr} {sLen sCap m : Nat} {v : Value} {olds news : List Value} (hl : (Builtin.lenOf v).run P w = .ok m w) (hn : (Builtin.firstCells i.size m v).run P w.drew = .ok news.toArray w.drew)
    (ho : (Builtin.firstCells i.size sLen (.slice base sLen sCap)).run P w.drew = .ok olds.toArray w.drew)
    (hg : sCap < sLen + m) (hb : 0 < i.bytes) (hfit : (sLen + m) * i.bytes ≤ 140737488355328) :
    ∃ cap rest, sLen + m ≤ cap ∧ cap ≤ 9223372036854775807 ∧ rest.length = (cap - (sLen + m)) * z.cells.size ∧ (Builtin.append_ #[t, tx] ty #[.slice base sLen sCap, v]).run P w =
      .ok (.slice (some ⟨w.heap.size, 0, none⟩) (sLen + m) cap) (w.drew.alloc (.cells (olds ++ news ++ rest).toArray e)) := by
  have hle : sLen + m ≤ 140737488355328 := Nat.le_trans (Nat.le_mul_of_pos_right _ hb) hfit
  have h63' : ¬ (9223372036854775807 < ((sLen : Int) + (m : Int))) := by omega
  have h48 := growslice_fits hg hfit
  have h48' : ¬ (281474976710656 < Builtin.nextslicecap (sLen + m) sCap * i.bytes) := by omega
  refine ⟨grownCap w (sLen + m) sCap e, (Builtin.zeroCells z.cells (grownCap w (sLen + m) sCap e - (sLen + m))).toList, ?_, ?_, ?_, ?_⟩
  · simp only [grownCap, Question.cut]; omega
  · simp only [grownCap, Question.cut]
    have := Nat.mod_lt (w.tape w.drawn (.appendCap (sLen + m) sCap e)) (show 0 < 2 ^ 63 - (sLen + m) by omega)
    omega
  · simp [size_zeroCells]
  · have hn' : ¬ (sLen + m ≤ sCap) := by omega
    have hd := notInt hd0
    simp [Builtin.append_, run_underlying ht, run_underlying hx, hd, sizeOf, typeInfo, zeroValue, hi, hz, hl, hn', h63', h48', Question.forced, hn, ho, newRow, grownCap]
    congr 2
    simp [List.append_assoc]
end run

theorem flatten_get {z : Nat} : ∀ {xs : List (List AV)} {i j : Nat} {l : List AV} {e : AV}, (∀ x ∈ xs, x.length = z) → xs[i]? = some l → l[j]? = some e → xs.flatten[i * z + j]? = some e
  | [], i, j, l, e, _, h, _ => by simp at h
  | x :: xs, 0, j, l, e, hz, h, hj => by
    simp only [List.getElem?_cons_zero, Option.some.injEq] at h
    subst h
    rw [Nat.zero_mul, Nat.zero_add, List.flatten_cons, List.getElem?_append_left (List.getElem?_eq_some_iff.1 hj).1]
    exact hj
  | x :: xs, i + 1, j, l, e, hz, h, hj => by
    have hx : x.length = z := hz x List.mem_cons_self
    rw [List.flatten_cons, List.getElem?_append_right (by rw [hx, Nat.add_mul]; omega), hx, show (i + 1) * z + j - z = i * z + j from by rw [Nat.add_mul]; omega]
    exact flatten_get (fun y hy => hz y (List.mem_cons_of_mem _ hy)) (by simpa using h) hj

theorem flatten_length {z : Nat} : ∀ {xs : List (List AV)}, (∀ x ∈ xs, x.length = z) → xs.flatten.length = xs.length * z
  | [], _ => by simp
  | x :: xs, hz => by
    rw [List.flatten_cons, List.length_append, hz x List.mem_cons_self, flatten_length (fun y hy => hz y (List.mem_cons_of_mem _ hy)), List.length_cons, Nat.add_mul]
    omega

/-- A slice that begins a block. -/
theorem mk_sl {c : Cfg} {z b len cap : Nat} {xs : List (List AV)} {ws : List Value} {t : Tag} (hl : xs.length = len) (hc : len ≤ cap) (hz : ∀ x ∈ xs, x.length = z) (ht : tagOk c t z (some ⟨b, 0, none⟩) len cap)
    (hr : RelL c xs.flatten ws) (hf : ∀ (k : Nat) v, ws[k]? = some v → Fz c ⟨b, k, none⟩ v) : RelV c (.sl t z xs) (.slice (some ⟨b, 0, none⟩) len cap) := by
  have hwl : ws.length = len * z := by rw [← hr.1, flatten_length hz, hl]
  refine .sl (fun i j => (ws[i * z + j]?).getD undef) hl hc hz ht (fun i j hi hj => ?_) (fun i j l e h1 h2 => ?_)
  · refine ⟨_, rfl, rfl, ?_⟩
    have hlt : i * z + j < ws.length := by
      rw [hwl]
      calc i * z + j < i * z + z := by omega
        _ = (i + 1) * z := by rw [Nat.add_mul]; omega
        _ ≤ len * z := Nat.mul_le_mul_right _ hi
    have e1 : ws[i * z + j]? = some ws[i * z + j] := List.getElem?_eq_getElem hlt
    rw [e1]
    have := hf _ _ e1
    have e2 : (⟨b, 0, none⟩ : Addr).add (i * z + j) = ⟨b, i * z + j, none⟩ := by
      unfold Addr.add
      split
      · rename_i h0; rw [h0]
      · simp
    rw [e2]
    exact this
  · have h3 := flatten_get hz h1 h2
    obtain ⟨v, hv, hrv⟩ := hr.get h3
    simp only [hv, Option.getD_some]
    exact hrv

/-- Only the count of draws has gone on. -/
def Cfg.drew (c : Cfg) : Cfg := { c with w := c.w.drew }
theorem Ext.drew (c : Cfg) : Ext c c.drew := by
  have h := Ext.refl c
  exact { fz := fun p v _ hf => ⟨hf.1, hf.2⟩, bx := h.bx, tl := h.tl, dd := h.dd, size := Nat.le_refl _, os := rfl, tape := rfl, output := rfl, hlen := h.hlen, outer := fun _ _ _ => rfl, nw := h.nw }
theorem HR.drew {c : Cfg} (h : HR c) : HR c.drew where
  dom := h.dom
  ex := h.ex
  obj := fun id b o ho hi hl => (h.obj id b o ho hi hl).mono (Ext.drew c).toExt0 rfl
  inj := h.inj
  bound := h.bound

theorem new_fz {c : Cfg} (h : HR c) {arr : Array Value} {e : TypeId} {k : Nat} {v : Value} (hv : arr[k]? = some v) : Fz (c.push (.cells arr e)) ⟨c.w.heap.size, k, none⟩ v := by
  refine ⟨cell?_of (heap_alloc_eq _ _) hv, ?_⟩
  rintro ⟨id, o, h1, h2, h3⟩
  have := h.bound id _ h2
  simp at this

/-- The elements of a slice value, as an append reads them. -/
theorem olds_of {c : Cfg} {t : Tag} {z len cap : Nat} {xs : List (List AV)} {a : Option Addr} (hr : RelV c (.sl t z xs) (.slice a len cap)) :
    xs.length = len ∧ (∀ x ∈ xs, x.length = z) ∧ len ≤ cap ∧ tagOk c t z a len cap ∧ SrcOk c z (.slice a len cap) len xs.flatten := by
  have h := src_sl hr
  cases hr with
  | sl vs hl hc hz ht hf hr => exact ⟨hl, hz, hc, ht, by rw [← hl]; rw [← hl] at h; exact h⟩

/-- An append to a slice without spare places: what comes of it is nobody's to write. -/
theorem app_full {E : Env} {c : Cfg} {ty tx e : Nat} {ty0 : TypeId} {j ix : TI} {xs ys : List (List AV)} {v x : Value} (ho : HR c) (hs : sliceOf E.T ty = some (e, j)) (hx : lookT E.T tx = some ix) (hd : ∀ k, ix.d ≠ .int k)
    (hb : 0 < j.bytes) (hr : RelV c (.sl .full j.sz xs) v) (hsrc : SrcOk c j.sz x ys.length ys.flatten) (hyz : ∀ y ∈ ys, y.length = j.sz) (hfit : (xs.length + ys.length) * j.bytes ≤ 140737488355328) :
    ∃ v' w', (Builtin.append_ #[ty, tx] ty0 #[v, x]).run E.P c.w = .ok v' w' ∧ Ext c ⟨c.ι, c.H, w'⟩ ∧ HR ⟨c.ι, c.H, w'⟩ ∧ RelV ⟨c.ι, c.H, w'⟩ (.sl .no j.sz (xs ++ ys)) v' := by
  obtain ⟨hu, hj⟩ := sliceOf_spec hs
  obtain ⟨dx, hux, hokx⟩ := (Env.ti hx).u
  have hdx : ∀ k, dx ≠ .int k := by
    intro k e
    subst e
    cases hd' : ix.d <;> rw [hd'] at hokx <;> simp [TD.ok] at hokx
    exact hd _ hd'
  obtain ⟨info, hinfo, hi⟩ := Option.map_eq_some_iff.1 (Env.ti hj).info
  simp only [Prod.mk.injEq] at hi
  obtain ⟨hi1, hi2, hi3⟩ := hi
  cases hv : v with
  | slice a len cap =>
    subst hv
    obtain ⟨hl, hz, hc, ht, olds, ho1, ho2, _, ho4⟩ := olds_of hr
    obtain ⟨news, hn1, hn2, hn3, hn4⟩ := hsrc
    have hcap : cap = len := ht
    subst hcap
    by_cases hm : ys.length = 0
    · have hy : ys = [] := List.length_eq_zero_iff.1 hm
      subst hy
      have hn0 : news = [] := List.length_eq_zero_iff.1 (by simpa using hn2)
      subst hn0
      refine ⟨.slice a cap cap, c.w, ?_, Ext.refl c, ho, by rw [List.append_nil]; exact hr.forget⟩
      rw [run_append_in hu hux hdx hinfo (m := 0) (news := []) (hn3 _ _) (by rw [hi2]; exact hn4 _ _ rfl) (by omega)]
      cases a with
      | none => rfl
      | some p => simp [storeCells]
    · obtain ⟨cap', rest, h1, h2, h3, h4⟩ := run_append_out (P := E.P) (w := c.w) (t := ty) (tx := tx) (ty := ty0) (e := e) (z := j.zero) (base := a) (sLen := cap) (sCap := cap) (v := x) (olds := olds) (news := news) hu hux hdx hinfo hi1
        (hn3 _ _) (by rw [hi2]; exact hn4 _ _ rfl) (by rw [hi2]; exact ho4 _ _ rfl) (by omega) (by omega) (by rw [hi3, ← hl]; exact hfit)
      have hx1 := (Ext.drew c).trans (Ext.push c.drew (.cells (olds ++ news ++ rest).toArray e) ho.drew)
      refine ⟨_, _, h4, hx1, ho.drew.push _, ?_⟩
      refine mk_sl (c := (c.drew).push (.cells (olds ++ news ++ rest).toArray e)) (ws := olds ++ news) (by rw [List.length_append, hl]) h1 ?_ trivial ?_ (fun k u hk => ?_)
      · intro y hy
        rcases List.mem_append.1 hy with hy | hy
        · exact hz y hy
        · exact hyz y hy
      · rw [List.flatten_append]
        exact (ho1.append hn1).mono hx1.toExt0
      · refine new_fz (c := c.drew) ho.drew ?_
        rw [List.getElem?_toArray, List.getElem?_append_left (List.getElem?_eq_some_iff.1 hk).1]
        exact hk
  | _ => subst hv; cases hr
end Go.Gp
