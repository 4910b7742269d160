/- Part of a proof: GpA15, GpA16, GpA47 -/
import Derived.Test.YtlmjiblfmhaicaaGreatDoorK6
import Derived.OpenShut
import Derived.SizedLaws
import Derived.Carry

set_option linter.unusedSectionVars false

/- What a law's row reads of its arguments, as abstract values. -/
namespace Go.Gp
open Go.RowKit
set_option linter.unusedVariables false
set_option linter.unusedSimpArgs false

/-- Cells of a type. -/
inductive OfT (E : Env) : Nat → List AV → Prop
  | int {t k n} (h : (lookT E.T t).map TI.d = some (.int k)) (w : (Lit.int k n).wf = true) : OfT E t [.int k n]
  | bool {t b} (h : (lookT E.T t).map TI.d = some .basic) : OfT E t [.bool b]
  | str {t s} (h : (lookT E.T t).map TI.d = some .str) (hb : s.length ≤ reachBytes) : OfT E t [.str s]
  | slice {t e j xs} (hs : sliceOf E.T t = some (e, j)) (hx : ∀ x ∈ xs, OfT E e x) (hb : xs.length * j.bytes ≤ reachBytes) : OfT E t [.sl .no j.sz xs]
  | struct {t i fs cs} (h : lookT E.T t = some i) (hd : i.d = .struct fs) (hl : cs.length = i.sz) (hx : ∀ off ft j, (off, ft) ∈ fs → lookT E.T ft = some j → OfT E ft ((cs.drop off).take j.sz)) : OfT E t cs
  | array {t i n e j cs} (h : lookT E.T t = some i) (hd : i.d = .array n e) (hj : lookT E.T e = some j) (hl : cs.length = i.sz) (hx : ∀ k, k < n → OfT E e ((cs.drop (k * j.sz)).take j.sz)) : OfT E t cs

def tilesB (T : List (Nat × TI)) : Nat → List (Nat × Nat) → Nat → Bool
  | off, [], tot => off == tot
  | off, (o, ft) :: fs, tot => match lookT T ft with
    | some j => o == off && tilesB T (off + j.sz) fs tot
    | none => false

def plainB (T : List (Nat × TI)) : Nat → Nat → Bool
  | 0, _ => false
  | D + 1, t => match lookT T t with
    | none => false
    | some i => match i.d with
      | .basic | .int _ | .str => true
      | .struct fs => (fs.all fun f => plainB T D f.2) && tilesB T 0 fs i.sz
      | .array n e => plainB T D e && (match lookT T e with | some j => n * j.sz == i.sz | none => false)
      | .slice e => plainB T D e
      | _ => false

theorem tiles_le {T : List (Nat × TI)} : ∀ {fs : List (Nat × Nat)} {off tot : Nat}, tilesB T off fs tot = true → off ≤ tot ∧ ∀ p ∈ fs, off ≤ p.1
  | [], off, tot, h => by simp [tilesB] at h; exact ⟨by omega, fun p hp => by simp at hp⟩
  | (o, ft) :: fs, off, tot, h => by
    unfold tilesB at h
    split at h
    · rename_i j hj
      simp only [Bool.and_eq_true, beq_iff_eq] at h
      obtain ⟨rfl, h2⟩ := h
      obtain ⟨h3, h4⟩ := tiles_le h2
      refine ⟨by omega, fun p hp => ?_⟩
      rcases List.mem_cons.1 hp with rfl | hp
      · exact Nat.le_refl _
      · have := h4 p hp; omega
    · simp at h

/-- A world in which nothing is in sight: all that is read is frozen. -/
def Cfg.bare (w : World) : Cfg := { ι := fun _ => none, H := [], w := w }

theorem bare_fz {w : World} {p : Addr} {v : Value} (h : w.cell? p = some v) : Fz (Cfg.bare w) p v := ⟨h, fun ⟨id, o, h1, _, _⟩ => by simp [Cfg.bare] at h1⟩

theorem bare_hr (w : World) : HR (Cfg.bare w) where
  dom := fun id b h => by cases h
  ex := fun id o h _ _ => by simp [Cfg.bare] at h
  obj := fun id b o h _ _ => by simp [Cfg.bare] at h
  inj := fun i j b x y h _ _ _ _ _ => by simp [Cfg.bare] at h
  bound := fun id b h => by cases h

section
variable {H : Type} {enc : TypeId × Value → H} {E : Env} {W : World} {spare : Nat → Bool} {held : Bool}

def Reads (E : Env) (W : World) (t : Nat) (cs : List Value) : Prop := ∃ l, RelL (Cfg.bare W) l cs ∧ OfT E t l

theorem reads_fields {rd : Nat → Prop} {cs : List Value} : ∀ (fs : List (Nat × Nat)) (off tot : Nat), tilesB E.T off fs tot = true → cs.length = tot →
    (∀ o ft j, (o, ft) ∈ fs → lookT E.T ft = some j → Reads E W ft ((cs.drop o).take j.sz)) →
    ∃ l, RelL (Cfg.bare W) l (cs.drop off) ∧ ∀ o ft j, (o, ft) ∈ fs → lookT E.T ft = some j → OfT E ft ((l.drop (o - off)).take j.sz)
  | [], off, tot, h, hl, _ => by
    simp [tilesB] at h
    refine ⟨[], ?_, fun o ft j hm => by simp at hm⟩
    rw [List.drop_eq_nil_of_le (by omega)]
    exact RelL.nil _
  | (o, ft) :: fs, off, tot, h, hl, hr => by
    unfold tilesB at h
    split at h
    · rename_i j hj
      simp only [Bool.and_eq_true, beq_iff_eq] at h
      obtain ⟨rfl, h2⟩ := h
      obtain ⟨h3, h4⟩ := tiles_le h2
      obtain ⟨l1, r1, t1⟩ := hr o ft j List.mem_cons_self hj
      obtain ⟨l2, r2, t2⟩ := reads_fields (rd := rd) fs (o + j.sz) tot h2 hl (fun o' ft' j' hm => hr o' ft' j' (List.mem_cons_of_mem _ hm))
      have hl1 : l1.length = j.sz := by rw [r1.1, List.length_take, List.length_drop]; omega
      refine ⟨l1 ++ l2, ?_, fun o' ft' j' hm hj' => ?_⟩
      · have e : cs.drop o = (cs.drop o).take j.sz ++ cs.drop (o + j.sz) := by rw [← List.drop_drop, List.take_append_drop]
        rw [e]
        exact r1.append r2
      · rcases List.mem_cons.1 hm with hm | hm
        · injection hm with e1 e2
          subst e1; subst e2
          rw [hj] at hj'
          injection hj' with hj'
          subst hj'
          rw [Nat.sub_self, List.drop_zero, List.take_append_of_le_length (by omega), List.take_of_length_le (by omega)]
          exact t1
        · have := h4 _ hm
          have hge : o + j.sz ≤ o' := this
          rw [List.drop_append, List.drop_eq_nil_of_le (by omega), List.nil_append, hl1, show o' - o - j.sz = o' - (o + j.sz) from by omega]
          exact t2 o' ft' j' hm hj'
    · simp at h

theorem reads_items {e : Nat} {z : Nat} {cs : List Value} : ∀ (m s : Nat), cs.length = (s + m) * z → (∀ k, k < s + m → Reads E W e ((cs.drop (k * z)).take z)) →
    ∃ l, RelL (Cfg.bare W) l (cs.drop (s * z)) ∧ ∀ k, s ≤ k → k < s + m → OfT E e ((l.drop ((k - s) * z)).take z)
  | 0, s, hl, _ => by
    refine ⟨[], ?_, fun k h1 h2 => by omega⟩
    rw [List.drop_eq_nil_of_le (by rw [hl]; simp)]
    exact RelL.nil _
  | m + 1, s, hl, hr => by
    obtain ⟨l1, r1, t1⟩ := hr s (by omega)
    obtain ⟨l2, r2, t2⟩ := reads_items m (s + 1) (by rw [hl]; congr 1; omega) (fun k hk => hr k (by omega))
    have hs : (s + 1) * z = s * z + z := by rw [Nat.add_mul]; omega
    have hm : (s + (m + 1)) * z = s * z + z + m * z := by rw [Nat.add_mul, Nat.add_mul]; omega
    have hl1 : l1.length = z := by rw [r1.1, List.length_take, List.length_drop]; omega
    refine ⟨l1 ++ l2, ?_, fun k h1 h2 => ?_⟩
    · have e : cs.drop (s * z) = (cs.drop (s * z)).take z ++ cs.drop ((s + 1) * z) := by rw [hs, ← List.drop_drop, List.take_append_drop]
      rw [e]
      exact r1.append r2
    · rcases Nat.eq_or_lt_of_le h1 with rfl | h1
      · rw [Nat.sub_self, Nat.zero_mul, List.drop_zero, List.take_append_of_le_length (by omega), List.take_of_length_le (by omega)]
        exact t1
      · have e : (k - s) * z = z + (k - (s + 1)) * z := by
          rw [show k - s = (k - (s + 1)) + 1 from by omega, Nat.add_mul]; omega
        rw [e, List.drop_append, List.drop_eq_nil_of_le (by omega), List.nil_append, hl1, Nat.add_sub_cancel_left]
        exact t2 k (by omega) (by omega)

theorem mem_weightsAll {P : Program} {e : TypeId} : ∀ {ds : List (DataW H)} {i : Nat} {d : DataW H}, ds[i]? = some d → ∀ n ∈ d.weights P e, n ∈ DataW.weightsAll P e ds
  | [], i, d, h, _, _ => by simp at h
  | d0 :: ds, 0, d, h, n, hn => by
    simp only [List.getElem?_cons_zero, Option.some.injEq] at h
    subst h
    simp only [DataW.weightsAll, List.mem_append]
    exact .inl hn
  | d0 :: ds, i + 1, d, h, n, hn => by
    simp only [List.getElem?_cons_succ] at h
    simp only [DataW.weightsAll, List.mem_append]
    exact .inr (mem_weightsAll h n hn)

theorem plainAll_mem {T : List (Nat × TI)} {D : Nat} {fs : List (Nat × Nat)} (h : (fs.all fun f => plainB T D f.2) = true) : ∀ p ∈ fs, plainB T D p.2 = true := by
  simpa using h

theorem reads_of : ∀ (D : Nat) (t fuel : Nat) (cs : List Value) (d : DataW H) (ps : List MemPlace), plainB E.T D t = true → DataW.trod enc E.P W 0 spare held fuel t cs = some (d, ps) →
    (∀ n ∈ d.weights E.P t, n ≤ reachBytes) → Reads E W t cs
  | 0, _, _, _, _, _, h, _, _ => by simp [plainB] at h
  | D + 1, t, fuel, cs, d, ps, h, ht, hw => by
    unfold plainB at h
    split at h
    · simp at h
    rename_i i hi
    obtain ⟨u, hu, hok⟩ := (Env.ti hi).u
    have hd0 : ∀ x, i.d = x → (lookT E.T t).map TI.d = some x := fun x hx => by rw [hi]; simp [hx]
    cases hd : i.d with
    | basic =>
      rw [hd] at hok
      have hok' : u = .bool := hok
      subst hok'
      obtain ⟨b, rfl, _⟩ := DataW.trod_bool hu ht
      exact ⟨[.bool b], RelL.cons .bool (RelL.nil _), .bool (hd0 _ hd)⟩
    | int k =>
      rw [hd] at hok
      have hok' : u = .int k := hok
      subst hok'
      obtain ⟨n, rfl, _, hwf⟩ := DataW.trod_int hu ht
      exact ⟨[.int k n], RelL.cons .int (RelL.nil _), .int (hd0 _ hd) hwf⟩
    | str =>
      rw [hd] at hok
      have hok' : u = .string := hok
      subst hok'
      obtain ⟨s, rfl, hx, _⟩ := DataW.trod_string hu ht
      injection hx with hx1 hx2
      subst hx1
      refine ⟨[.str s.data.toList], RelL.cons ?_ (RelL.nil _), .str (hd0 _ hd) ?_⟩
      · have : (Value.string s) = .string ⟨s.data.toList.toArray⟩ := by simp
        rw [this]; exact .str
      · exact hw _ (by simp [DataW.weights])
    | struct fs =>
      rw [hd] at hok h
      obtain ⟨gs, rfl, hgs⟩ := hok
      simp only [Bool.and_eq_true] at h
      obtain ⟨xs, n, rfl, hx, hl, hlen, hf⟩ := DataW.trod_struct hu ht
      injection hx with hx1 hx2
      subst hx1
      have hsz := cellsOf_look hi
      obtain ⟨l, r, tt⟩ := reads_fields (E := E) (W := W) (rd := fun _ => True) fs 0 i.sz h.2 (by rw [hl, hsz]) (fun o ft j hm hj => by
        rw [← hgs] at hm
        obtain ⟨g, hg, hge⟩ := List.mem_map.1 hm
        injection hge with e1 e2
        obtain ⟨k, hk⟩ := List.getElem?_of_mem hg
        have hk' : gs[k]? = some g := by rw [← Array.getElem?_toList]; exact hk
        have h1 := hf k g hk'
        rw [cellsOf_look (by rw [e2]; exact hj : lookT E.T g.type = some j)] at h1
        have hlt : k < xs.length := by rw [hlen]; exact (Array.getElem?_eq_some_iff.1 hk').1
        rw [List.getElem?_eq_getElem hlt] at h1
        rw [← e1, ← e2]
        refine reads_of D g.type n _ _ _ ?_ h1 (fun q hq => hw q ?_)
        · have := plainAll_mem h.1 (g.offset, g.type) (by rw [← hgs]; exact List.mem_map.2 ⟨g, hg, rfl⟩)
          exact this
        · have ht1 : (gs.toList.map (·.type))[k]? = some g.type := by rw [List.getElem?_map, hk]; rfl
          have hd1 : (xs.map (·.1))[k]? = some (xs[k]).1 := by rw [List.getElem?_map, List.getElem?_eq_getElem hlt]; rfl
          have := DataW.weights_mem_each ht1 hd1 q hq
          simpa [DataW.weights, hu] using this)
      rw [List.drop_zero] at r
      exact ⟨l, r, .struct hi hd (by rw [r.1, hl, hsz]) (fun off ft j hm hj => by simpa using tt off ft j hm hj)⟩
    | array n e =>
      rw [hd] at hok h
      have hok' : u = .array n e := hok
      subst hok'
      simp only [Bool.and_eq_true] at h
      obtain ⟨h1, h2⟩ := h
      cases hj : lookT E.T e with
      | none => rw [hj] at h2; simp at h2
      | some j =>
        rw [hj] at h2
        simp only [beq_iff_eq] at h2
        obtain ⟨xs, m, rfl, hx, hl, hlen, hf⟩ := DataW.trod_array hu ht
        injection hx with hx1 hx2
        subst hx1
        have hsz := cellsOf_look hi
        have hsj := cellsOf_look hj
        obtain ⟨l, r, tt⟩ := reads_items (E := E) (W := W) (e := e) (z := j.sz) (cs := cs) n 0 (by rw [hl, hsz, Nat.zero_add, h2]) (fun k hk => by
          have h3 := hf k (by omega)
          rw [hsj] at h3
          have hlt : k < xs.length := by omega
          rw [List.getElem?_eq_getElem hlt] at h3
          refine reads_of D e m _ _ _ h1 h3 (fun q hq => hw q ?_)
          have hd1 : (xs.map (·.1))[k]? = some (xs[k]).1 := by rw [List.getElem?_map, List.getElem?_eq_getElem hlt]; rfl
          have := mem_weightsAll hd1 q hq
          simpa [DataW.weights, hu] using this)
        rw [Nat.zero_mul, List.drop_zero] at r
        exact ⟨l, r, .array hi hd hj (by rw [r.1, hl, hsz]) (fun k hk => by simpa using tt k (Nat.zero_le _) (by omega))⟩
    | slice e =>
      rw [hd] at hok h
      have hok' : u = .slice e := hok
      subst hok'
      have hp : plainB E.T D e = true := h
      have hje : ∃ j, lookT E.T e = some j := by
        cases D with
        | zero => simp [plainB] at hp
        | succ D =>
          unfold plainB at hp
          cases hj : lookT E.T e with
          | none => rw [hj] at hp; simp at hp
          | some j => exact ⟨j, rfl⟩
      obtain ⟨j, hj⟩ := hje
      have hs : sliceOf E.T t = some (e, j) := by unfold sliceOf; rw [hi]; simp [hd, hj]
      have hsj := cellsOf_look hj
      rcases DataW.trod_slice hu ht with ⟨rfl, hx⟩ | ⟨a, len, cap, elems, rest, m, rfl, rfl, hx, hb, hlc, hcm, hel, hf, _, _⟩
      · refine ⟨[.sl .no j.sz []], RelL.cons (.sl (fun _ _ => undef) rfl (Nat.le_refl _) (by simp) trivial (fun i j hi => by omega) (fun i j l e h => by simp at h)) (RelL.nil _), .slice hs (by simp) (by simp)⟩
      · injection hx with hx1 hx2
        subst hx1
        have hmem : ∀ k, k < len → ∃ vs, W.cells? 0 (a.add (k * j.sz)) j.sz = some vs ∧ Reads E W e vs := fun k hk => by
          have h3 := hf k hk
          rw [hsj] at h3
          have hlt : k < elems.length := by omega
          rw [List.getElem?_eq_getElem hlt] at h3
          obtain ⟨vs, h4, h5⟩ := Option.bind_eq_some_iff.1 h3
          refine ⟨vs, h4, reads_of D e m _ _ _ hp h5 (fun q hq => hw q ?_)⟩
          have hd1 : (elems.map (·.1))[k]? = some (elems[k]).1 := by rw [List.getElem?_map, List.getElem?_eq_getElem hlt]; rfl
          have := mem_weightsAll hd1 q hq
          simp only [DataW.weights, hu, List.mem_cons, List.mem_append]
          exact .inr (.inl this)
        have hall : ∀ k, ∃ (x : List AV) (vs : List Value), k < len → W.cells? 0 (a.add (k * j.sz)) j.sz = some vs ∧ RelL (Cfg.bare W) x vs ∧ OfT E e x := fun k => by
          by_cases hk : k < len
          · obtain ⟨vs, h1, l, h2, h3⟩ := hmem k hk
            exact ⟨l, vs, fun _ => ⟨h1, h2, h3⟩⟩
          · exact ⟨[], [], fun h => absurd h hk⟩
        let X := fun k => Classical.choose (hall k)
        let V := fun k => Classical.choose (Classical.choose_spec (hall k))
        have hXV : ∀ k, k < len → W.cells? 0 (a.add (k * j.sz)) j.sz = some (V k) ∧ RelL (Cfg.bare W) (X k) (V k) ∧ OfT E e (X k) := fun k hk => Classical.choose_spec (Classical.choose_spec (hall k)) hk
        have hget : ∀ i l, ((List.range len).map X)[i]? = some l → i < len ∧ l = X i := fun i l hl => by
          rw [List.getElem?_map] at hl
          obtain ⟨i', h1, h2⟩ := Option.map_eq_some_iff.1 hl
          have hlt : i < len := by simpa using (List.getElem?_eq_some_iff.1 h1).1
          rw [List.getElem?_range hlt] at h1
          injection h1 with h1
          subst h1
          exact ⟨hlt, h2.symm⟩
        have hcell : ∀ i, i < len → (V i).length = j.sz ∧ ∀ q, q < j.sz → W.cell? ((a.add (i * j.sz)).add q) = (V i)[q]? := fun i hi' => by
          obtain ⟨h1, _, _⟩ := hXV i hi'
          obtain ⟨_, g1, g2⟩ := World.cells?_some h1
          exact ⟨g1, g2⟩
        refine ⟨[.sl .no j.sz ((List.range len).map X)], RelL.cons ?_ (RelL.nil _), .slice hs ?_ ?_⟩
        · refine .sl (fun i q => ((V i)[q]?).getD undef) (by simp) hlc ?_ trivial (fun i q hi' hq => ?_) (fun i q l y h1 h2 => ?_)
          · intro x hx
            obtain ⟨i, hi', rfl⟩ := List.mem_map.1 hx
            have hi' : i < len := by simpa using hi'
            obtain ⟨_, h2, _⟩ := hXV i hi'
            rw [h2.1]; exact (hcell i hi').1
          · obtain ⟨h1, h2⟩ := hcell i hi'
            have hq' : (V i)[q]? = some ((V i)[q]'(by omega)) := List.getElem?_eq_getElem (by omega)
            have h3 := h2 q hq
            rw [hq'] at h3
            have hsp : a.spot = none := by
              cases hsp : a.spot with
              | none => rfl
              | some s =>
                exfalso
                obtain ⟨g1, g2⟩ := hcell 0 (by omega)
                have g3 := g2 0 (by omega)
                have g4 : (V 0)[0]? = some ((V 0)[0]'(by omega)) := List.getElem?_eq_getElem (by omega)
                have e0 : (a.add (0 * j.sz)).add 0 = a := by simp [Addr.add]
                rw [g4, e0] at g3
                unfold World.cell? at g3
                split at g3
                · rw [if_pos (by rw [hsp]; rfl)] at g3
                  cases g3
                · cases g3
            refine ⟨a, rfl, hsp, ?_⟩
            rw [← addr_add_add a hsp, hq']
            exact bare_fz h3
          · obtain ⟨hlt, rfl⟩ := hget i l h1
            obtain ⟨_, h3, _⟩ := hXV i hlt
            obtain ⟨v, hv, hrv⟩ := h3.get h2
            simp only [hv, Option.getD_some]
            exact hrv
        · intro x hx
          obtain ⟨i, hi', rfl⟩ := List.mem_map.1 hx
          exact (hXV i (by simpa using hi')).2.2
        · have h6 := hw ((elems.length + rest.length) * E.P.bytesOf e) (by simp [DataW.weights, hu])
          obtain ⟨info, i1, i2, i3, i4⟩ := ext_info hj
          have hby : E.P.bytesOf e = j.bytes := by simp [Program.bytesOf, i1, i4]
          rw [hby] at h6
          rw [List.length_map, List.length_range]
          refine Nat.le_trans (Nat.mul_le_mul_right _ ?_) h6
          omega
    | map k e => rw [hd] at h; simp at h
    | ptr e => rw [hd] at h; simp at h
    | iface => rw [hd] at h; simp at h
    | fn => rw [hd] at h; simp at h
end
end Go.Gp

/- From a walk to a law's row: what comes in, what goes out. -/
namespace Go.Gp
open Go.RowKit
set_option linter.unusedVariables false
set_option linter.unusedSimpArgs false

theorem OfT.int_inv {E : Env} {t : Nat} {k : IntKind} {cs : List AV} (hs : (lookT E.T t).map TI.d = some (.int k)) (h : OfT E t cs) : ∃ n, cs = [.int k n] ∧ (Lit.int k n).wf = true := by
  cases h with
  | int h w => rw [hs] at h; injection h with h; injection h with h; subst h; exact ⟨_, rfl, w⟩
  | bool h => rw [hs] at h; cases h
  | str h => rw [hs] at h; cases h
  | slice h => obtain ⟨u, _⟩ := sliceOf_spec h; unfold sliceOf at h; cases hl : lookT E.T t with
    | none => rw [hl] at hs; simp at hs
    | some i => rw [hl] at hs h; simp at hs; simp [hs] at h
  | struct h hd => rw [h] at hs; simp [hd] at hs
  | array h hd => rw [h] at hs; simp [hd] at hs

theorem OfT.bool_inv {E : Env} {t : Nat} {cs : List AV} (hs : (lookT E.T t).map TI.d = some .basic) (h : OfT E t cs) : ∃ b, cs = [.bool b] := by
  cases h with
  | int h w => rw [hs] at h; cases h
  | bool h => exact ⟨_, rfl⟩
  | str h => rw [hs] at h; cases h
  | slice h => unfold sliceOf at h; cases hl : lookT E.T t with
    | none => rw [hl] at hs; simp at hs
    | some i => rw [hl] at hs h; simp at hs; simp [hs] at h
  | struct h hd => rw [h] at hs; simp [hd] at hs
  | array h hd => rw [h] at hs; simp [hd] at hs

theorem OfT.str_inv {E : Env} {t : Nat} {cs : List AV} (hs : (lookT E.T t).map TI.d = some .str) (h : OfT E t cs) : ∃ s, cs = [.str s] ∧ s.length ≤ reachBytes := by
  cases h with
  | int h w => rw [hs] at h; cases h
  | bool h => rw [hs] at h; cases h
  | str h hb => exact ⟨_, rfl, hb⟩
  | slice h => unfold sliceOf at h; cases hl : lookT E.T t with
    | none => rw [hl] at hs; simp at hs
    | some i => rw [hl] at hs h; simp at hs; simp [hs] at h
  | struct h hd => rw [h] at hs; simp [hd] at hs
  | array h hd => rw [h] at hs; simp [hd] at hs

theorem OfT.slice_inv {E : Env} {t e : Nat} {j : TI} {cs : List AV} (hs : sliceOf E.T t = some (e, j)) (h : OfT E t cs) : ∃ xs, cs = [.sl .no j.sz xs] ∧ (∀ x ∈ xs, OfT E e x) ∧ xs.length * j.bytes ≤ reachBytes := by
  have key : ∀ x, (lookT E.T t).map TI.d = some x → x = .slice e := fun x hx => by
    unfold sliceOf at hs
    cases hl : lookT E.T t with
    | none => rw [hl] at hx; simp at hx
    | some i =>
      rw [hl] at hx hs
      simp at hx
      simp only [hx] at hs
      split at hs <;> try (simp at hs; done)
      rename_i e' he
      split at hs <;> simp at hs
      rw [hs.1]
  cases h with
  | int h w => have := key _ h; cases this
  | bool h => have := key _ h; cases this
  | str h hb => have := key _ h; cases this
  | slice h hx hb => rw [hs] at h; injection h with h; injection h with h1 h2; subst h1; subst h2; exact ⟨_, rfl, hx, hb⟩
  | struct h hd => have := key _ (by rw [h]; rfl); rw [hd] at this; cases this
  | array h hd => have := key _ (by rw [h]; rfl); rw [hd] at this; cases this

theorem OfT.struct_inv {E : Env} {t : Nat} {i : TI} {fs : List (Nat × Nat)} {cs : List AV} (hi : lookT E.T t = some i) (hs : i.d = .struct fs) (h : OfT E t cs) :
    cs.length = i.sz ∧ ∀ off ft j, (off, ft) ∈ fs → lookT E.T ft = some j → OfT E ft ((cs.drop off).take j.sz) := by
  have hs' : (lookT E.T t).map TI.d = some (.struct fs) := by rw [hi]; simp [hs]
  cases h with
  | int h w => rw [hs'] at h; cases h
  | bool h => rw [hs'] at h; cases h
  | str h => rw [hs'] at h; cases h
  | slice h => unfold sliceOf at h; rw [hi] at h; simp [hs] at h
  | struct h hd hl hx => rw [hi] at h; injection h with h; subst h; rw [hs] at hd; injection hd with hd; subst hd; exact ⟨hl, hx⟩
  | array h hd => rw [hi] at h; injection h with h; subst h; rw [hs] at hd; cases hd

theorem OfT.array_inv {E : Env} {t n e : Nat} {i j : TI} {cs : List AV} (hi : lookT E.T t = some i) (hs : i.d = .array n e) (hj : lookT E.T e = some j) (h : OfT E t cs) :
    cs.length = i.sz ∧ ∀ k, k < n → OfT E e ((cs.drop (k * j.sz)).take j.sz) := by
  have hs' : (lookT E.T t).map TI.d = some (.array n e) := by rw [hi]; simp [hs]
  cases h with
  | int h w => rw [hs'] at h; cases h
  | bool h => rw [hs'] at h; cases h
  | str h => rw [hs'] at h; cases h
  | slice h => unfold sliceOf at h; rw [hi] at h; simp [hs] at h
  | struct h hd hl hx => rw [hi] at h; injection h with h; subst h; rw [hs] at hd; cases hd
  | array h hd hj' hl hx => rw [hi] at h; injection h with h; subst h; rw [hs] at hd; injection hd with e1 e2; subst e1; subst e2; rw [hj] at hj'; injection hj' with hj'; subst hj'; exact ⟨hl, hx⟩

theorem Ext.below {W w' : World} {ι : Nat → Option Nat} {H : List AObj} (h : Ext (Cfg.bare W) ⟨ι, H, w'⟩) : Below W.heap.size W w' :=
  { os := h.os, tape := h.tape, output := h.output, size := h.size, block := fun b hb => h.outer b hb (fun id o ho => by simp [Cfg.bare] at ho) }

end Go.Gp

/- A law's walk where some package-level variables are known. -/
namespace Go.Gp
open Go.RowKit
theorem CallsA.lawG {E : Env} {g : FuncId} {args : List AV} {W : World} {vs : List Value} {fn : Func} {code : Code} (hG : ∀ k cs, E.G k = some cs → RelV (Cfg.bare W) (.rp cs) (.pointer (some ⟨k, 0, none⟩))) (hB : ∀ k cs, E.G k = some cs → 2 ≤ cs.length → gBlk (Cfg.bare W) k cs.length) (hf : E.P.funcs[g]? = some fn) (hb : fn.body = some code) (hn : (fn.name == "runtime.NumGoroutine") = false)
    (h : CallsA E g args [] (Is [] (.bool true))) (hr : RelL (Cfg.bare W) args vs) : Calls E.P g vs.toArray W (fun e w' => e = .returned (.bool true) ∧ Below W.heap.size W w') := by
  have h1 := h.out (Cfg.bare W) vs rfl ⟨bare_hr W, hG, hB⟩ hr
  rw [run_callFunc_body hf hb hn] at h1
  refine Calls.mono h1 ?_
  rintro e w' ⟨ι, H', x, a1, a2, a3, rfl, rfl⟩
  cases e with
  | returned v => exact ⟨by rw [RelV.bool_inv a3], a1.below⟩
  | panicked ch => exact a3.elim
  | outgrown => exact a3.elim

/-- A variable that is a table of integers. -/
theorem tab_rel {W : World} {g : Nat} {k : IntKind} {zs : List Int} (h : ∀ i, i < zs.length → W.cell? ⟨g, i, none⟩ = some (.int k (zs.getD i 0))) : RelV (Cfg.bare W) (.rp (zs.map fun z => .int k z)) (.pointer (some ⟨g, 0, none⟩)) := by
  refine .rp (fun i => .int k (zs.getD i 0)) rfl (fun i hi => ?_) (fun i e he => ?_)
  · rw [List.length_map] at hi
    have e1 : (Addr.mk g 0 none).add i = ⟨g, i, none⟩ := by
      unfold Addr.add
      by_cases h0 : i = 0
      · rw [if_pos h0, h0]
      · rw [if_neg h0]; simp
    rw [e1]
    exact bare_fz (h i hi)
  · rw [List.getElem?_map] at he
    cases hz : zs[i]? with
    | none => rw [hz] at he; cases he
    | some z =>
      rw [hz] at he
      cases he
      have : zs.getD i 0 = z := by rw [List.getD_eq_getElem?_getD, hz]; rfl
      rw [this]
      exact .int
end Go.Gp
