/- Part of a proof: GpA1 -/
import Derived.CallsIn
import Derived.Below
import Derived.RangeFuncIn

set_option linter.unusedSectionVars false

/- Abstract values and their relation to the machine's values and memory: definitions, and that the relation is kept when memory grows. -/
namespace Go.Gp
open Go.RowKit
set_option linter.unusedVariables false

/-- What is known of a slice's spare places. -/
inductive Tag where
  | no
  | full
  | row (n j : Nat)
  | mine (n j : Nat)
  deriving DecidableEq

/-- Abstract values. -/
inductive AV where
  | int (k : IntKind) (n : Int)
  | bool (b : Bool)
  | str (s : List UInt8)
  | nilp
  | ptr (n j off : Nat)
  | rp (cs : List AV)
  | sl (t : Tag) (z : Nat) (xs : List (List AV))
  | os (n j off z len : Nat)
  | ov (n j off z len : Nat)
  | func (g : FuncId) (caps : List AV)
  | nilf
  | iface (t : TypeId) (v : AV)
  | nili
  | map (n j : Nat)
  | nilm
  | agg (cs : List AV)
  | tup (vs : List AV)
  | yld (n j : Nat)
  | unk

def look : List (Nat × AV) → Nat → AV
  | [], _ => .unk
  | (j, v) :: r, i => bif Nat.beq j i then v else look r i

/-- Abstract blocks. -/
inductive AObj where
  | cells (cs : List AV)
  | tail (n z : Nat)
  | map (es : List (AV × AV × Nat)) (clock : Nat)
  | iter (n j since : Nat) (seen : List Nat) (stepped : Nat)
  | loop (r : Loop) (t : List (Nat × AV))
  | dead

def AObj.wr : AObj → Nat → Prop
  | .cells _, _ => True
  | .tail n z, o => n * z ≤ o
  | .map _ _, _ => True
  | .iter .., _ => True
  | .loop _ _, _ => True
  | .dead, _ => False

def AObj.box : AObj → Bool
  | .tail _ _ => false
  | _ => true

def AObj.live : AObj → Bool
  | .dead => false
  | _ => true

structure Cfg where
  ι : Nat → Option Nat
  H : List AObj
  w : World

/-- The cell may be written by whoever holds its block. -/
def Wr (c : Cfg) (p : Addr) : Prop := ∃ (id : Nat) (o : AObj), c.H[id]? = some o ∧ c.ι id = some p.block ∧ o.wr p.off

/-- A cell that is read and that nobody writes. -/
def Fz (c : Cfg) (p : Addr) (v : Value) : Prop := c.w.cell? p = some v ∧ ¬ Wr c p

def boxAt (c : Cfg) (id b : Nat) : Prop := ∃ o, c.H[id]? = some o ∧ o.box = true ∧ c.ι id = some b

def tailAt (c : Cfg) (id : Nat) (z : Nat) (a : Option Addr) (len cap : Nat) : Prop :=
  (c.ι id = none ∧ cap = len) ∨
  ∃ b arr e, c.ι id = some b ∧ a = some ⟨b, 0, none⟩ ∧ c.w.heap[b]? = some (.cells arr e (0, 0)) ∧ arr.size = cap * z ∧ cap ≤ 9223372036854775807

/-- There lies something that is no tail. -/
def isBox (H : List AObj) (id : Nat) : Prop := ∃ o, H[id]? = some o ∧ o.box = true

def ownAt (c : Cfg) (id : Nat) (z : Nat) (a : Option Addr) (cap : Nat) : Prop :=
  ∃ b arr e, c.ι id = some b ∧ a = some ⟨b, 0, none⟩ ∧ c.w.heap[b]? = some (.cells arr e (0, 0)) ∧ arr.size = cap * z ∧ cap ≤ 9223372036854775807
def tagOk (c : Cfg) : Tag → Nat → Option Addr → Nat → Nat → Prop
  | .no, _, _, _, _ => True
  | .full, _, _, len, cap => cap = len
  | .row m j, z, a, len, cap => isBox c.H (m + j) ∨ ∃ n, c.H[m + j]? = some (.tail n z) ∧ len ≤ n ∧ (len = n → tailAt c (m + j) z a len cap)
  | .mine m j, z, a, len, cap => isBox c.H (m + j) ∨ ∃ n, c.H[m + j]? = some (.tail n z) ∧ len ≤ n ∧ (len = n → ownAt c (m + j) z a cap)

/-- A block holds at least so many cells. -/
def blkOk (w : World) (b n : Nat) : Prop := ∃ arr e fr, w.heap[b]? = some (.cells arr e fr) ∧ n ≤ arr.size

inductive RelV (c : Cfg) : AV → Value → Prop
  | int {k n} : RelV c (.int k n) (.int k n)
  | bool {b} : RelV c (.bool b) (.bool b)
  | str {s} : RelV c (.str s) (.string ⟨s.toArray⟩)
  | nilp : RelV c .nilp (.pointer none)
  | ptr {n j off b} (h : boxAt c (n + j) b) : RelV c (.ptr n j off) (.pointer (some ⟨b, off, none⟩))
  | rp {cs ad} (vs : Nat → Value) (hs : ad.spot = none) (hf : ∀ i, i < cs.length → Fz c (ad.add i) (vs i))
      (hr : ∀ (i : Nat) e, cs[i]? = some e → RelV c e (vs i)) : RelV c (.rp cs) (.pointer (some ad))
  | sl {t z xs a len cap} (vs : Nat → Nat → Value) (hl : xs.length = len) (hc : len ≤ cap) (hz : ∀ x ∈ xs, x.length = z) (ht : tagOk c t z a len cap)
      (hf : ∀ i j, i < len → j < z → ∃ ad, a = some ad ∧ ad.spot = none ∧ Fz c (ad.add (i * z + j)) (vs i j))
      (hr : ∀ (i j : Nat) l e, xs[i]? = some l → l[j]? = some e → RelV c e (vs i j)) : RelV c (.sl t z xs) (.slice a len cap)
  | os {n j off z len b cap} (h : boxAt c (n + j) b) (hc : len ≤ cap) : RelV c (.os n j off z len) (.slice (some ⟨b, off, none⟩) len cap)
  | ov {n j off z len b cap} (h : boxAt c (n + j) b) (hc : len ≤ cap) (hs : blkOk c.w b (off + cap * z)) : RelV c (.ov n j off z len) (.slice (some ⟨b, off, none⟩) len cap)
  | func {g caps} (ws : List Value) (hl : caps.length = ws.length) (hr : ∀ (i : Nat) a v, caps[i]? = some a → ws[i]? = some v → RelV c a v) :
      RelV c (.func g caps) (.func (.func g) #[] ws.toArray)
  | nilf : RelV c .nilf .nilFunc
  | iface {t a v} (h : RelV c a v) : RelV c (.iface t a) (.iface t v)
  | nili : RelV c .nili .nilIface
  | map {n j b} (h : boxAt c (n + j) b) : RelV c (.map n j) (.map (some b))
  | nilm : RelV c .nilm (.map none)
  | agg {cs} (ws : List Value) (hl : cs.length = ws.length) (hr : ∀ (i : Nat) a v, cs[i]? = some a → ws[i]? = some v → RelV c a v) :
      RelV c (.agg cs) (.agg ws.toArray)
  | tup {cs} (ws : List Value) (hl : cs.length = ws.length) (hr : ∀ (i : Nat) a v, cs[i]? = some a → ws[i]? = some v → RelV c a v) :
      RelV c (.tup cs) (.tuple ws.toArray)
  | yld {n j b} (h : boxAt c (n + j) b) : RelV c (.yld n j) (.func (.yield b) #[] #[])
  | unk {v} : RelV c .unk v

def RelL (c : Cfg) (as : List AV) (vs : List Value) : Prop :=
  as.length = vs.length ∧ ∀ (i : Nat) a v, as[i]? = some a → vs[i]? = some v → RelV c a v

theorem RelL.nil (c : Cfg) : RelL c [] [] := ⟨rfl, fun i a v h => by simp at h⟩
theorem RelL.cons {c : Cfg} {a : AV} {v : Value} {as : List AV} {vs : List Value} (h : RelV c a v) (hs : RelL c as vs) : RelL c (a :: as) (v :: vs) := by
  refine ⟨by simp [hs.1], fun i x y hx hy => ?_⟩
  cases i with
  | zero => simp at hx hy; subst hx; subst hy; exact h
  | succ i => simp at hx hy; exact hs.2 i x y hx hy
theorem RelL.head {c : Cfg} {a : AV} {v : Value} {as : List AV} {vs : List Value} (h : RelL c (a :: as) (v :: vs)) : RelV c a v := h.2 0 a v rfl rfl
theorem RelL.tail {c : Cfg} {a : AV} {v : Value} {as : List AV} {vs : List Value} (h : RelL c (a :: as) (v :: vs)) : RelL c as vs :=
  ⟨by have := h.1; simpa using this, fun i x y hx hy => h.2 (i + 1) x y (by simpa using hx) (by simpa using hy)⟩
theorem RelL.append {c : Cfg} {as bs : List AV} {vs us : List Value} (h : RelL c as vs) (h' : RelL c bs us) : RelL c (as ++ bs) (vs ++ us) := by
  refine ⟨by simp [h.1, h'.1], fun i x y hx hy => ?_⟩
  rcases Nat.lt_or_ge i as.length with hi | hi
  · rw [List.getElem?_append_left hi] at hx
    rw [List.getElem?_append_left (by rw [← h.1]; exact hi)] at hy
    exact h.2 i x y hx hy
  · rw [List.getElem?_append_right hi] at hx
    rw [List.getElem?_append_right (by rw [← h.1]; exact hi), ← h.1] at hy
    exact h'.2 _ x y hx hy
theorem RelL.get {c : Cfg} {as : List AV} {vs : List Value} (h : RelL c as vs) {i : Nat} {a : AV} (ha : as[i]? = some a) : ∃ v, vs[i]? = some v ∧ RelV c a v := by
  have hi := (List.getElem?_eq_some_iff.1 ha).1
  have : i < vs.length := by rw [← h.1]; exact hi
  exact ⟨vs[i], List.getElem?_eq_getElem this, h.2 i a _ ha (List.getElem?_eq_getElem this)⟩
theorem RelL.set {c : Cfg} {as : List AV} {vs : List Value} (h : RelL c as vs) (i : Nat) {a : AV} {v : Value} (hv : RelV c a v) : RelL c (as.set i a) (vs.set i v) := by
  refine ⟨by simp [h.1], fun j x y hx hy => ?_⟩
  rw [List.getElem?_set] at hx hy
  by_cases hij : i = j
  · subst hij
    simp only [if_true] at hx hy
    split at hx
    · split at hy
      · simp at hx hy; subst hx; subst hy; exact hv
      · simp at hy
    · simp at hx
  · rw [if_neg hij] at hx hy
    exact h.2 j x y hx hy
theorem RelL.drop {c : Cfg} {as : List AV} {vs : List Value} (h : RelL c as vs) (n : Nat) : RelL c (as.drop n) (vs.drop n) :=
  ⟨by simp [h.1], fun i x y hx hy => by rw [List.getElem?_drop] at hx hy; exact h.2 _ x y hx hy⟩
theorem RelL.take {c : Cfg} {as : List AV} {vs : List Value} (h : RelL c as vs) (n : Nat) : RelL c (as.take n) (vs.take n) := by
  refine ⟨by simp [h.1], fun i x y hx hy => ?_⟩
  rw [List.getElem?_take] at hx hy
  split at hx
  · rename_i hi; rw [if_pos hi] at hy; exact h.2 i x y hx hy
  · simp at hx

/-- What is kept from one configuration to a later one, as far as readings go. -/
structure Ext0 (c c' : Cfg) : Prop where
  fz : ∀ p v, p.block < c.w.heap.size → Fz c p v → Fz c' p v
  bx : ∀ id b, boxAt c id b → boxAt c' id b
  tl : ∀ id n z, c.H[id]? = some (.tail n z) → isBox c'.H id ∨ ∃ n', c'.H[id]? = some (.tail n' z) ∧ n ≤ n' ∧
    (n' = n → c'.ι id = c.ι id ∧ ∀ b arr e, c.ι id = some b → c.w.heap[b]? = some (.cells arr e (0, 0)) → ∃ arr', c'.w.heap[b]? = some (.cells arr' e (0, 0)) ∧ arr'.size = arr.size)
  dd : ∀ id : Nat, isBox c.H id → isBox c'.H id
  sz : ∀ id b n, boxAt c id b → blkOk c.w b n → blkOk c'.w b n

/-- What is kept from one configuration to a later one. -/
structure Ext (c c' : Cfg) : Prop extends Ext0 c c' where
  size : c.w.heap.size ≤ c'.w.heap.size
  os : c'.w.os = c.w.os
  tape : c'.w.tape = c.w.tape
  output : c'.w.output = c.w.output
  hlen : c.H.length ≤ c'.H.length
  outer : ∀ b, b < c.w.heap.size → (∀ (id : Nat) o, c.H[id]? = some o → o.live = true → c.ι id ≠ some b) → c'.w.heap[b]? = c.w.heap[b]?
  nw : ∀ (id b : Nat) o, c'.H[id]? = some o → o.live = true → c'.ι id = some b → b < c.w.heap.size → ∃ id' o', c.H[id']? = some o' ∧ o'.live = true ∧ c.ι id' = some b

theorem cell_lt {w : World} {p : Addr} {v : Value} (h : w.cell? p = some v) : p.block < w.heap.size := by
  unfold World.cell? at h
  rcases Nat.lt_or_ge p.block w.heap.size with h' | h'
  · exact h'
  · rw [Array.getElem?_eq_none h'] at h; simp at h

theorem Fz.lt {c : Cfg} {p : Addr} {v : Value} (h : Fz c p v) : p.block < c.w.heap.size := cell_lt h.1

theorem Ext0.fz' {c c' : Cfg} (h : Ext0 c c') {p : Addr} {v : Value} (hf : Fz c p v) : Fz c' p v := h.fz p v hf.lt hf

theorem Ext.refl (c : Cfg) : Ext c c where
  size := Nat.le_refl _
  os := rfl
  tape := rfl
  output := rfl
  hlen := Nat.le_refl _
  fz := fun _ _ _ h => h
  bx := fun _ _ h => h
  tl := fun id n z h => .inr ⟨n, h, Nat.le_refl _, fun _ => ⟨rfl, fun b arr e _ h => ⟨arr, h, rfl⟩⟩⟩
  dd := fun _ h => h
  sz := fun _ _ _ _ h => h
  outer := fun _ _ _ => rfl
  nw := fun id _ o h hl hi _ => ⟨id, o, h, hl, hi⟩

theorem tagOk.mono {c c' : Cfg} (h : Ext0 c c') {t : Tag} {z : Nat} {a : Option Addr} {len cap : Nat} (ht : tagOk c t z a len cap) : tagOk c' t z a len cap := by
  cases t with
  | no => trivial
  | full => exact ht
  | row m j =>
    simp only [tagOk] at ht ⊢
    generalize m + j = id at *
    rcases ht with hd | ⟨n, hn, hle, hat⟩
    · exact .inl (h.dd id hd)
    · rcases h.tl id n z hn with hd | ⟨n', hn', hle', hk⟩
      · exact .inl hd
      · refine .inr ⟨n', hn', Nat.le_trans hle hle', fun e => ?_⟩
        have hnn : n' = n := by omega
        obtain ⟨hi, hb⟩ := hk hnn
        rcases hat (by omega) with ⟨h1, h3⟩ | ⟨b, arr, e', h1, h2, h3, h4, h5⟩
        · exact .inl ⟨by rw [hi]; exact h1, h3⟩
        · obtain ⟨arr', h6, h7⟩ := hb b arr e' h1 h3
          exact .inr ⟨b, arr', e', by rw [hi]; exact h1, h2, h6, by rw [h7]; exact h4, h5⟩
  | mine m j =>
    simp only [tagOk] at ht ⊢
    generalize m + j = id at *
    rcases ht with hd | ⟨n, hn, hle, hat⟩
    · exact .inl (h.dd id hd)
    · rcases h.tl id n z hn with hd | ⟨n', hn', hle', hk⟩
      · exact .inl hd
      · refine .inr ⟨n', hn', Nat.le_trans hle hle', fun e => ?_⟩
        have hnn : n' = n := by omega
        obtain ⟨hi, hb⟩ := hk hnn
        obtain ⟨b, arr, e', h1, h2, h3, h4, h5⟩ := hat (by omega)
        obtain ⟨arr', h6, h7⟩ := hb b arr e' h1 h3
        exact ⟨b, arr', e', by rw [hi]; exact h1, h2, h6, by rw [h7]; exact h4, h5⟩

theorem RelV.mono {c c' : Cfg} (h : Ext0 c c') {a : AV} {v : Value} (hr : RelV c a v) : RelV c' a v := by
  induction hr with
  | int => exact .int
  | bool => exact .bool
  | str => exact .str
  | nilp => exact .nilp
  | ptr hb => exact .ptr (h.bx _ _ hb)
  | rp vs hs hf _ ih => exact .rp vs hs (fun i hi => h.fz' (hf i hi)) ih
  | sl vs hl hc hz ht hf _ ih =>
    exact .sl vs hl hc hz (ht.mono h) (fun i j hi hj => by obtain ⟨ad, e, hsp, hfz⟩ := hf i j hi hj; exact ⟨ad, e, hsp, h.fz' hfz⟩) ih
  | os hb hc => exact .os (h.bx _ _ hb) hc
  | ov hb hc hs => exact .ov (h.bx _ _ hb) hc (h.sz _ _ _ hb hs)
  | func ws hl _ ih => exact .func ws hl ih
  | nilf => exact .nilf
  | iface _ ih => exact .iface ih
  | nili => exact .nili
  | map hb => exact .map (h.bx _ _ hb)
  | nilm => exact .nilm
  | agg ws hl _ ih => exact .agg ws hl ih
  | tup ws hl _ ih => exact .tup ws hl ih
  | yld hb => exact .yld (h.bx _ _ hb)
  | unk => exact .unk

theorem RelL.mono {c c' : Cfg} (h : Ext0 c c') {as : List AV} {vs : List Value} (hr : RelL c as vs) : RelL c' as vs := ⟨hr.1, fun i a v ha hv => (hr.2 i a v ha hv).mono h⟩

/-- The abstract heap describes the memory. -/
def objRel (c : Cfg) (b : Nat) : AObj → Prop
  | .cells cs => ∃ arr e, c.w.heap[b]? = some (.cells arr e (0, 0)) ∧ cs.length ≤ arr.size ∧ ∀ (i : Nat) a, cs[i]? = some a → ∃ v, arr[i]? = some v ∧ RelV c a v
  | .tail n z => ∃ arr e, c.w.heap[b]? = some (.cells arr e (0, 0)) ∧ n * z ≤ arr.size
  | .map es clock => ∃ (entries : Array MapEntry), c.w.heap[b]? = some (.map entries clock) ∧ es.length = entries.size ∧
      ∀ (i : Nat) k v s en, es[i]? = some (k, v, s) → entries[i]? = some en → RelV c k en.key ∧ RelV c v en.val ∧ en.born = s
  | .iter n j since seen stepped => ∃ mb, c.w.heap[b]? = some (.mapIter (some mb) since seen.toArray stepped) ∧ boxAt c (n + j) mb
  | .loop r t => c.w.heap[b]? = some (.loop r) ∧ ∀ i, RelV c (look t i) (r.tmps.getD i undef)
  | .dead => True

structure HR (c : Cfg) : Prop where
  dom : ∀ id b, c.ι id = some b → id < c.H.length
  ex : ∀ (id : Nat) o, c.H[id]? = some o → o.box = true → o.live = true → ∃ b, c.ι id = some b
  obj : ∀ (id b : Nat) o, c.H[id]? = some o → c.ι id = some b → o.live = true → objRel c b o
  inj : ∀ (i j b : Nat) o o', c.H[i]? = some o → c.H[j]? = some o' → o.live = true → o'.live = true → c.ι i = some b → c.ι j = some b → i = j
  bound : ∀ (id b : Nat), c.ι id = some b → b < c.w.heap.size

theorem Ext.trans {c c' c'' : Cfg} (h : Ext c c') (k : Ext c' c'') : Ext c c'' where
  size := Nat.le_trans h.size k.size
  os := k.os.trans h.os
  tape := k.tape.trans h.tape
  output := k.output.trans h.output
  hlen := Nat.le_trans h.hlen k.hlen
  fz := fun p v _ hf => k.toExt0.fz' (h.toExt0.fz' hf)
  bx := fun id b hb => k.bx id b (h.bx id b hb)
  tl := fun id n z hn => by
    rcases h.tl id n z hn with hd | ⟨n', hn', hle, hk⟩
    · exact .inl (k.dd id hd)
    · rcases k.tl id n' z hn' with hd | ⟨n'', hn'', hle', hk'⟩
      · exact .inl hd
      · refine .inr ⟨n'', hn'', Nat.le_trans hle hle', fun e => ?_⟩
        obtain ⟨i1, b1⟩ := hk (by omega)
        obtain ⟨i2, b2⟩ := hk' (by omega)
        refine ⟨i2.trans i1, fun b arr e hb ha => ?_⟩
        obtain ⟨arr1, ha1, hs1⟩ := b1 b arr e hb ha
        obtain ⟨arr2, ha2, hs2⟩ := b2 b arr1 e (by rw [i1]; exact hb) ha1
        exact ⟨arr2, ha2, hs2.trans hs1⟩
  dd := fun id hd => k.dd id (h.dd id hd)
  sz := fun id b n hb hs => k.sz id b n (h.bx id b hb) (h.sz id b n hb hs)
  outer := fun b hb hn => by
    refine (k.outer b (Nat.lt_of_lt_of_le hb h.size) fun id o ho hl hi => ?_).trans (h.outer b hb hn)
    obtain ⟨i', o', ho', hl', hi'⟩ := h.nw id b o ho hl hi hb
    exact hn i' o' ho' hl' hi'
  nw := fun id b o ho hl hi hb => by
    obtain ⟨i', o', ho', hl', hi'⟩ := k.nw id b o ho hl hi (Nat.lt_of_lt_of_le hb h.size)
    exact h.nw i' b o' ho' hl' hi' hb

theorem objRel.mono {c c' : Cfg} (h : Ext0 c c') {b : Nat} {o : AObj} (hb : c'.w.heap[b]? = c.w.heap[b]?) (ho : objRel c b o) : objRel c' b o := by
  cases o with
  | cells cs =>
    obtain ⟨arr, e, h1, h2, h3⟩ := ho
    exact ⟨arr, e, hb.trans h1, h2, fun i a hi => by obtain ⟨v, hv, hr⟩ := h3 i a hi; exact ⟨v, hv, hr.mono h⟩⟩
  | tail n z =>
    obtain ⟨arr, e, h1, h2⟩ := ho
    exact ⟨arr, e, hb.trans h1, h2⟩
  | map es clk =>
    obtain ⟨en, h1, h2, h3⟩ := ho
    exact ⟨en, hb.trans h1, h2, fun i k v s x hi hx => by obtain ⟨a1, a2, a3⟩ := h3 i k v s x hi hx; exact ⟨a1.mono h, a2.mono h, a3⟩⟩
  | iter n j a s q =>
    obtain ⟨mb, h1, h2⟩ := ho
    exact ⟨mb, hb.trans h1, h.bx _ _ h2⟩
  | loop r t => exact ⟨hb.trans ho.1, fun i => (ho.2 i).mono h⟩
  | dead => trivial

/-- What the program's package variables hold (those that are known and that nobody writes). -/
abbrev GEnv := Nat → Option (List AV)
/-- A variable's block: so many cells, and nobody's. -/
def gBlk (c : Cfg) (g n : Nat) : Prop := ∃ arr e fr, c.w.heap[g]? = some (.cells arr e fr) ∧ arr.size = n ∧ ∀ (id : Nat) o, c.H[id]? = some o → o.live = true → c.ι id ≠ some g
theorem gBlk.step {c c' : Cfg} {g n : Nat} (h : gBlk c g n) (e : Ext c c') : gBlk c' g n := by
  obtain ⟨arr, t, fr, h1, h2, h3⟩ := h
  have hlt : g < c.w.heap.size := (Array.getElem?_eq_some_iff.1 h1).1
  refine ⟨arr, t, fr, (e.outer g hlt h3).trans h1, h2, fun id o ho hl hi => ?_⟩
  obtain ⟨id', o', ho', hl', hi'⟩ := e.nw id g o ho hl hi hlt
  exact h3 id' o' ho' hl' hi'
structure Ok (G : GEnv) (c : Cfg) : Prop where
  hr : HR c
  glob : ∀ g cs, G g = some cs → RelV c (.rp cs) (.pointer (some ⟨g, 0, none⟩))
  gblk : ∀ g cs, G g = some cs → 2 ≤ cs.length → gBlk c g cs.length
theorem Ok.step {G : GEnv} {c c' : Cfg} (h : Ok G c) (e : Ext c c') (hr : HR c') : Ok G c' := ⟨hr, fun g cs hg => (h.glob g cs hg).mono e.toExt0, fun g cs hg h2 => (h.gblk g cs hg h2).step e⟩

/-! ### Ids below a bound; what a function lays and leaves behind is forgotten -/
inductive Bd (n : Nat) : AV → Prop
  | int {k m} : Bd n (.int k m)
  | bool {b} : Bd n (.bool b)
  | str {s} : Bd n (.str s)
  | nilp : Bd n .nilp
  | ptr {m j off} (h : m + j < n) : Bd n (.ptr m j off)
  | rp {cs} (h : ∀ e ∈ cs, Bd n e) : Bd n (.rp cs)
  | sl {t z xs} (ht : ∀ m j, t = .row m j → m + j < n) (h : ∀ x ∈ xs, ∀ e ∈ x, Bd n e) (hm : ∀ m j, t = .mine m j → m + j < n := by intro _ _ e; cases e) : Bd n (.sl t z xs)
  | os {m j off z len} (h : m + j < n) : Bd n (.os m j off z len)
  | ov {m j off z len} (h : m + j < n) : Bd n (.ov m j off z len)
  | func {g cs} (h : ∀ e ∈ cs, Bd n e) : Bd n (.func g cs)
  | nilf : Bd n .nilf
  | iface {t a} (h : Bd n a) : Bd n (.iface t a)
  | nili : Bd n .nili
  | map {m j} (h : m + j < n) : Bd n (.map m j)
  | nilm : Bd n .nilm
  | agg {cs} (h : ∀ e ∈ cs, Bd n e) : Bd n (.agg cs)
  | tup {cs} (h : ∀ e ∈ cs, Bd n e) : Bd n (.tup cs)
  | yld {m j} (h : m + j < n) : Bd n (.yld m j)
  | unk : Bd n .unk

def Cfg.trunc (c : Cfg) (n : Nat) : Cfg := { ι := fun i => if i < n then c.ι i else none, H := c.H.take n, w := c.w }

theorem trunc_get {c : Cfg} {n id : Nat} {o : AObj} : (c.trunc n).H[id]? = some o ↔ id < n ∧ c.H[id]? = some o := by
  show (c.H.take n)[id]? = some o ↔ _
  rw [List.getElem?_take]
  split <;> simp [*]

theorem trunc_ι {c : Cfg} {n id b : Nat} : (c.trunc n).ι id = some b ↔ id < n ∧ c.ι id = some b := by
  show (if id < n then c.ι id else none) = some b ↔ _
  split <;> simp [*]

theorem trunc_ι_lt {c : Cfg} {n id : Nat} (h : id < n) : (c.trunc n).ι id = c.ι id := by
  show (if id < n then c.ι id else none) = _
  rw [if_pos h]

theorem Wr.of_trunc {c : Cfg} {n : Nat} {p : Addr} (h : Wr (c.trunc n) p) : Wr c p := by
  obtain ⟨id, o, h1, h2, h3⟩ := h
  exact ⟨id, o, (trunc_get.1 h1).2, (trunc_ι.1 h2).2, h3⟩

theorem boxAt.trunc {c : Cfg} {n id b : Nat} (hl : id < n) (h : boxAt c id b) : boxAt (c.trunc n) id b := by
  obtain ⟨o, h1, h2, h3⟩ := h
  exact ⟨o, trunc_get.2 ⟨hl, h1⟩, h2, trunc_ι.2 ⟨hl, h3⟩⟩

theorem tagOk.trunc {c : Cfg} {n : Nat} {t : Tag} {z : Nat} {a : Option Addr} {len cap : Nat} (hl : ∀ m j, t = .row m j → m + j < n) (hm' : ∀ m j, t = .mine m j → m + j < n) (h : tagOk c t z a len cap) : tagOk (c.trunc n) t z a len cap := by
  cases t with
  | no => trivial
  | full => exact h
  | row m j =>
    have hid := hl m j rfl
    simp only [tagOk] at h ⊢
    generalize m + j = id at *
    rcases h with ⟨o, hd, ho⟩ | ⟨m, hm, hle, hat⟩
    · exact .inl ⟨o, trunc_get.2 ⟨hid, hd⟩, ho⟩
    · refine .inr ⟨m, trunc_get.2 ⟨hid, hm⟩, hle, fun e => ?_⟩
      rcases hat e with ⟨h1, h2⟩ | ⟨b, arr, e', h1, h2⟩
      · exact .inl ⟨by rw [trunc_ι_lt hid]; exact h1, h2⟩
      · exact .inr ⟨b, arr, e', by rw [trunc_ι_lt hid]; exact h1, h2⟩
  | mine m j =>
    have hid := hm' m j rfl
    simp only [tagOk] at h ⊢
    generalize m + j = id at *
    rcases h with ⟨o, hd, ho⟩ | ⟨m, hm, hle, hat⟩
    · exact .inl ⟨o, trunc_get.2 ⟨hid, hd⟩, ho⟩
    · refine .inr ⟨m, trunc_get.2 ⟨hid, hm⟩, hle, fun e => ?_⟩
      obtain ⟨b, arr, e', h1, h2⟩ := hat e
      exact ⟨b, arr, e', by rw [trunc_ι_lt hid]; exact h1, h2⟩

theorem RelV.trunc {c : Cfg} {n : Nat} {a : AV} {v : Value} (hb : Bd n a) (hr : RelV c a v) : RelV (c.trunc n) a v := by
  have hz : ∀ p u, Fz c p u → Fz (c.trunc n) p u := fun p u h => ⟨h.1, fun hw => h.2 hw.of_trunc⟩
  induction hr with
  | int => exact .int
  | bool => exact .bool
  | str => exact .str
  | nilp => exact .nilp
  | ptr h => cases hb with | ptr hl => exact .ptr (h.trunc hl)
  | rp vs hs hf _ ih => cases hb with | rp hl => exact .rp vs hs (fun i hi => hz _ _ (hf i hi)) (fun i e he => ih i e he (hl e (List.mem_of_getElem? he)))
  | sl vs hl hc hzz ht hf _ ih =>
    cases hb with
    | sl hlt hl' hmt =>
      exact .sl vs hl hc hzz (ht.trunc hlt hmt) (fun i j hi hj => by obtain ⟨ad, e, hsp, hfz⟩ := hf i j hi hj; exact ⟨ad, e, hsp, hz _ _ hfz⟩)
        (fun i j l e h1 h2 => ih i j l e h1 h2 (hl' l (List.mem_of_getElem? h1) e (List.mem_of_getElem? h2)))
  | os h hc => cases hb with | os hl => exact .os (h.trunc hl) hc
  | ov h hc hs => cases hb with | ov hl => exact .ov (h.trunc hl) hc hs
  | func ws hl _ ih => cases hb with | func hb' => exact .func ws hl (fun i a v h1 h2 => ih i a v h1 h2 (hb' a (List.mem_of_getElem? h1)))
  | nilf => exact .nilf
  | iface _ ih => cases hb with | iface hb' => exact .iface (ih hb')
  | nili => exact .nili
  | map h => cases hb with | map hl => exact .map (h.trunc hl)
  | nilm => exact .nilm
  | agg ws hl _ ih => cases hb with | agg hb' => exact .agg ws hl (fun i a v h1 h2 => ih i a v h1 h2 (hb' a (List.mem_of_getElem? h1)))
  | tup ws hl _ ih => cases hb with | tup hb' => exact .tup ws hl (fun i a v h1 h2 => ih i a v h1 h2 (hb' a (List.mem_of_getElem? h1)))
  | yld h => cases hb with | yld hl => exact .yld (h.trunc hl)
  | unk => exact .unk

/-- What an object speaks of lies below n. -/
def OBd (n : Nat) (o : AObj) : Prop := (∀ cs, o = .cells cs → ∀ a ∈ cs, Bd n a) ∧ (∀ es k, o = .map es k → ∀ x ∈ es, Bd n x.1 ∧ Bd n x.2.1) ∧ (∀ r t, o = .loop r t → ∀ i, Bd n (look t i)) ∧
  (∀ m j a s q, o = .iter m j a s q → m + j < n)

theorem objRel.trunc {c : Cfg} {n b : Nat} {o : AObj} (ho : OBd n o) (h : objRel c b o) : objRel (c.trunc n) b o := by
  obtain ⟨hb, hm, hlp, hit⟩ := ho
  cases o with
  | cells cs =>
    obtain ⟨arr, e, h1, h2, h3⟩ := h
    exact ⟨arr, e, h1, h2, fun i a hi => by obtain ⟨v, hv, hr⟩ := h3 i a hi; exact ⟨v, hv, hr.trunc (hb cs rfl a (List.mem_of_getElem? hi))⟩⟩
  | tail n z => exact h
  | map es clk =>
    obtain ⟨en, h1, h2, h3⟩ := h
    refine ⟨en, h1, h2, fun i k v s x hi hx => ?_⟩
    have := hm es clk rfl (k, v, s) (List.mem_of_getElem? hi)
    obtain ⟨a1, a2, a3⟩ := h3 i k v s x hi hx
    exact ⟨a1.trunc this.1, a2.trunc this.2, a3⟩
  | iter m j a s q =>
    obtain ⟨mb, h1, h2⟩ := h
    exact ⟨mb, h1, h2.trunc (hit m j a s q rfl)⟩
  | loop r t => exact ⟨h.1, fun i => (h.2 i).trunc (hlp r t rfl i)⟩
  | dead => trivial

/-- Every object below n speaks of ids below n alone. -/
def HBd (n : Nat) (H : List AObj) : Prop := ∀ o ∈ H.take n, OBd n o

theorem HR.trunc {c : Cfg} (h : HR c) {n : Nat} (hbd : HBd n c.H) : HR (c.trunc n) where
  dom := fun id b hi => by
    obtain ⟨h1, h2⟩ := trunc_ι.1 hi
    have := h.dom id b h2
    show id < (c.H.take n).length
    rw [List.length_take]; omega
  ex := fun id o ho hx hl => by
    obtain ⟨h1, h2⟩ := trunc_get.1 ho
    obtain ⟨b, hb⟩ := h.ex id o h2 hx hl
    exact ⟨b, trunc_ι.2 ⟨h1, hb⟩⟩
  obj := fun id b o ho hi hl => by
    obtain ⟨h1, h2⟩ := trunc_get.1 ho
    have hmem : o ∈ c.H.take n := List.mem_of_getElem? (i := id) (by rw [List.getElem?_take, if_pos h1]; exact h2)
    exact (h.obj id b o h2 (trunc_ι.1 hi).2 hl).trunc (hbd o hmem)
  inj := fun i j b o o' h1 h2 l1 l2 i1 i2 => h.inj i j b o o' (trunc_get.1 h1).2 (trunc_get.1 h2).2 l1 l2 (trunc_ι.1 i1).2 (trunc_ι.1 i2).2
  bound := fun id b hi => h.bound id b (trunc_ι.1 hi).2

theorem Ext.trunc {c c' : Cfg} (h : Ext c c') {n : Nat} (hn : n = c.H.length) : Ext c (c'.trunc n) where
  size := h.size
  os := h.os
  tape := h.tape
  output := h.output
  hlen := by show c.H.length ≤ (c'.H.take n).length; rw [List.length_take]; have := h.hlen; omega
  fz := fun p v _ hf => ⟨(h.toExt0.fz' hf).1, fun hw => (h.toExt0.fz' hf).2 hw.of_trunc⟩
  bx := fun i b hb => by
    obtain ⟨o, h1, _⟩ := id hb
    exact (h.bx i b hb).trunc (by rw [hn]; exact (List.getElem?_eq_some_iff.1 h1).1)
  tl := fun id m z hm => by
    have hid : id < n := by rw [hn]; exact (List.getElem?_eq_some_iff.1 hm).1
    rcases h.tl id m z hm with ⟨o, hd, ho⟩ | ⟨m', hm', hle, hk⟩
    · exact .inl ⟨o, trunc_get.2 ⟨hid, hd⟩, ho⟩
    · refine .inr ⟨m', trunc_get.2 ⟨hid, hm'⟩, hle, fun e => ?_⟩
      obtain ⟨h1, h2⟩ := hk e
      exact ⟨by rw [trunc_ι_lt hid]; exact h1, h2⟩
  dd := fun id hd => by
    have hl : id < n := by rw [hn]; obtain ⟨o, h1, _⟩ := hd; exact (List.getElem?_eq_some_iff.1 h1).1
    obtain ⟨o, h1, h2⟩ := h.dd id hd
    exact ⟨o, trunc_get.2 ⟨hl, h1⟩, h2⟩
  sz := h.sz
  outer := h.outer
  nw := fun id b o ho hl hi hb => h.nw id b o (trunc_get.1 ho).2 hl (trunc_ι.1 hi).2 hb

end Go.Gp
