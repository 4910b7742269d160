/- Part of a proof: GdF1 -/
import Derived.Test.YtmacdhglhafldaaDoorK26

/- Files by their names. -/
namespace Go.Gp.Tryd
open Go.Proofs
set_option linter.unusedVariables false
set_option linter.unusedSimpArgs false
set_option maxHeartbeats 4000000
set_option maxRecDepth 100000

structure NFile where
  name : List UInt8
  bytes : List UInt8
def NFile.row (f : NFile) : List AV := [.str f.name, .sl .no 1 (f.bytes.map byteRow)]
def nrows (fs : List NFile) : List (List AV) := fs.map NFile.row
theorem nrows_len (fs : List NFile) : (nrows fs).length = fs.length := List.length_map _
theorem nrows_get {fs : List NFile} {i : Nat} (h : i < fs.length) : (nrows fs)[((i : Nat) : Int).toNat]? = some fs[i].row := by
  rw [Int.toNat_natCast, nrows, List.getElem?_map, List.getElem?_eq_getElem h]; rfl
theorem bd_file (n : Nat) (f : NFile) : ∀ a ∈ f.row, Bd n a := fun a ha => by
  simp only [NFile.row, List.mem_cons, List.not_mem_nil, or_false] at ha
  rcases ha with rfl | rfl
  · exact .str
  · exact bd_slB _
theorem bd_nrows (n : Nat) (fs : List NFile) : Bd n (.sl .no 2 (nrows fs)) := .sl (fun _ _ e => by cases e) fun x hx e he => by
  obtain ⟨f, _, rfl⟩ := List.mem_map.1 hx
  exact bd_file n f e he

def entK (f : NFile) : AV := .str f.name
def entV (f : NFile) : AV := .sl .no 1 (f.bytes.map byteRow)
/-- The map of files, entry by entry. -/
def mapStep (p : List AEntry × Nat) (f : NFile) : List AEntry × Nat := putM p.1 p.2 (entK f) (entV f)
def mapTo (fs : List NFile) : List AEntry × Nat := fs.foldl mapStep ([], 0)
def names (fs : List NFile) : List (List UInt8) := fs.map (·.name)
def entries (fs : List NFile) (k : Nat) : List AEntry := (fs.zipIdx k).map fun p => (entK p.1, entV p.1, p.2)
theorem entries_len (fs : List NFile) (k : Nat) : (entries fs k).length = fs.length := by simp [entries]
theorem entries_append (xs ys : List NFile) (k : Nat) : entries (xs ++ ys) k = entries xs k ++ entries ys (k + xs.length) := by simp [entries, List.zipIdx_append]
theorem entries_keys (fs : List NFile) (k : Nat) : keysOf (entries fs k) = names fs := by
  simp only [keysOf, entries, List.map_map, names]
  induction fs generalizing k with
  | nil => rfl
  | cons f fs ih => simp only [List.zipIdx_cons, List.map_cons]; rw [ih]; rfl

/-- Whether all keys are strings. -/
def StrKeysA (es : List AEntry) : Prop := ∀ e ∈ es, ∃ s, e.1 = .str s
theorem findA_none {s : List UInt8} : ∀ {es : List AEntry}, StrKeysA es → (findA (.str s) es = none ↔ s ∉ keysOf es)
  | [], _ => by simp [findA, keysOf]
  | e :: es, h => by
    obtain ⟨t, ht⟩ := h e List.mem_cons_self
    have ih := findA_none (s := s) (es := es) (fun x hx => h x (List.mem_cons_of_mem _ hx))
    have hk : keysOf (e :: es) = t :: keysOf es := by rw [keysOf, List.map_cons, ht]; rfl
    rw [hk, findA, ht]
    by_cases hst : s = t
    · subst hst; simp [keyB]
    · have : keyB (.str s) (.str t) = false := by simpa [keyB] using hst
      rw [this]
      simp [hst, ih]
theorem findA_some {s : List UInt8} : ∀ {es : List AEntry} {j : Nat}, StrKeysA es → findA (.str s) es = some j → (keysOf es)[j]? = some s
  | [], _, _, h => by cases h
  | e :: es, j, hs, h => by
    obtain ⟨t, ht⟩ := hs e List.mem_cons_self
    have hk : keysOf (e :: es) = t :: keysOf es := by rw [keysOf, List.map_cons, ht]; rfl
    rw [findA, ht] at h
    by_cases hst : s = t
    · subst hst
      simp [keyB] at h
      subst h
      rw [hk]; rfl
    · have : keyB (.str s) (.str t) = false := by simpa [keyB] using hst
      rw [this] at h
      simp only [cond_false, Option.map_eq_some_iff] at h
      obtain ⟨i, h1, rfl⟩ := h
      rw [hk, List.getElem?_cons_succ]
      exact findA_some (fun x hx => hs x (List.mem_cons_of_mem _ hx)) h1

theorem putM_keys {es : List AEntry} (hs : StrKeysA es) (clk : Nat) (f : NFile) : StrKeysA (putM es clk (entK f) (entV f)).1 ∧ keysOf (putM es clk (entK f) (entV f)).1 = (if f.name ∈ keysOf es then keysOf es else keysOf es ++ [f.name]) := by
  unfold putM entK
  cases hf : findA (.str f.name) es with
  | none =>
    have := (findA_none hs).1 hf
    rw [if_neg this]
    refine ⟨fun e he => ?_, by simp [keysOf, strA1]⟩
    rcases List.mem_append.1 he with he | he
    · exact hs e he
    · have := List.mem_singleton.1 he; subst this; exact ⟨_, rfl⟩
  | some j =>
    have h1 := findA_some hs hf
    rw [if_pos (List.mem_of_getElem? h1)]
    have hk : keysOf (es.modify j fun e => (AV.str f.name, entV f, e.2.2)) = keysOf es := by
      apply List.ext_getElem?
      intro i
      simp only [keysOf, List.getElem?_map, List.getElem?_modify]
      by_cases hji : j = i
      · subst hji
        simp only [keysOf, List.getElem?_map] at h1
        rw [h1]
        cases he : es[j]? with
        | none => rw [he] at h1; cases h1
        | some e => simp [strA1]
      · cases es[i]? <;> simp [hji]
    refine ⟨fun e he => ?_, hk⟩
    obtain ⟨i, hi⟩ := List.getElem?_of_mem he
    rw [List.getElem?_modify] at hi
    cases he' : es[i]? with
    | none => rw [he'] at hi; simp at hi
    | some e0 =>
      rw [he'] at hi
      by_cases hji : j = i
      · simp [hji] at hi; exact ⟨f.name, by rw [← hi]⟩
      · simp [hji] at hi; rw [← hi]; exact hs e0 (List.mem_of_getElem? he')
theorem mapFold : ∀ (fs : List NFile) (es : List AEntry) (clk : Nat), StrKeysA es → (keysOf es).Nodup →
    StrKeysA (fs.foldl mapStep (es, clk)).1 ∧ (keysOf (fs.foldl mapStep (es, clk)).1).Nodup ∧ (fs.foldl mapStep (es, clk)).1.length ≤ es.length + fs.length ∧
    ((fs.foldl mapStep (es, clk)).1.length = es.length + fs.length → (names fs).Nodup ∧ (∀ f ∈ fs, f.name ∉ keysOf es)) ∧
    ((names fs).Nodup → (∀ f ∈ fs, f.name ∉ keysOf es) → fs.foldl mapStep (es, clk) = (es ++ entries fs clk, clk + fs.length))
  | [], es, clk, hs, hn => ⟨hs, hn, Nat.le_refl _, fun _ => ⟨List.nodup_nil, by simp⟩, fun _ _ => by simp [entries]⟩
  | f :: fs, es, clk, hs, hn => by
    obtain ⟨h1, h2⟩ := putM_keys hs clk f
    have hk : ∀ es : List AEntry, (keysOf es).length = es.length := fun es => List.length_map _
    rw [List.foldl_cons]
    obtain ⟨es', clk', hp⟩ : ∃ es' clk', mapStep (es, clk) f = (es', clk') := ⟨_, _, rfl⟩
    have hp1 : (putM es clk (entK f) (entV f)).1 = es' := congrArg Prod.fst hp
    rw [hp1] at h1 h2
    rw [hp]
    have hn' : (keysOf es').Nodup := by
      rw [h2]
      split
      · exact hn
      · rename_i hni
        rw [List.nodup_append]
        exact ⟨hn, by simp, fun a ha b hb => by have := List.mem_singleton.1 hb; subst this; exact fun e => hni (e ▸ ha)⟩
    obtain ⟨i1, i2, i3, i4, i5⟩ := mapFold fs es' clk' h1 hn'
    have hl : es'.length = if f.name ∈ keysOf es then es.length else es.length + 1 := by
      rw [← hk es', h2]
      split
      · exact hk es
      · rw [List.length_append, hk]; rfl
    refine ⟨i1, i2, ?_, fun he => ?_, fun hnd hni => ?_⟩
    · rw [List.length_cons]
      split at hl <;> omega
    · rw [List.length_cons] at he
      have hnf : f.name ∉ keysOf es := fun hm => by rw [if_pos hm] at hl; omega
      rw [if_neg hnf] at hl h2
      obtain ⟨j1, j2⟩ := i4 (by omega)
      have j3 : ∀ g ∈ fs, g.name ≠ f.name ∧ g.name ∉ keysOf es := fun g hg => by
        have := j2 g hg
        rw [h2] at this
        simp at this
        exact ⟨this.2, this.1⟩
      refine ⟨List.nodup_cons.2 ⟨fun hm => ?_, j1⟩, fun g hg => ?_⟩
      · obtain ⟨g, hg, e⟩ := List.mem_map.1 hm
        exact (j3 g hg).1 e
      · rcases List.mem_cons.1 hg with rfl | hg
        · exact hnf
        · exact (j3 g hg).2
    · have hnf := hni f List.mem_cons_self
      obtain ⟨n1, n2⟩ := List.nodup_cons.1 hnd
      have hfn : findA (entK f) es = none := (findA_none hs).2 hnf
      have hput : (es', clk') = (es ++ [(entK f, entV f, clk)], clk + 1) := by
        rw [← hp]
        show putM es clk (entK f) (entV f) = _
        unfold putM
        rw [hfn]
      injection hput with e1 e2
      have := i5 n2 (fun g hg => by
        rw [h2, if_neg hnf]
        simp only [List.mem_append, List.mem_singleton, not_or]
        exact ⟨hni g (List.mem_cons_of_mem _ hg), fun e => n1 (List.mem_map.2 ⟨g, hg, e⟩)⟩)
      rw [this, e1, e2]
      simp only [Prod.mk.injEq, List.length_cons]
      refine ⟨?_, by omega⟩
      rw [List.append_assoc]
      simp [entries, List.zipIdx_cons]
/-- A map of files with as many entries as there are files: all names differ. -/
theorem mapTo_spec (fs : List NFile) : StrKeysA (mapTo fs).1 ∧ (mapTo fs).1.length ≤ fs.length ∧ ((mapTo fs).1.length = fs.length ↔ (names fs).Nodup) ∧ ((names fs).Nodup → mapTo fs = (entries fs 0, fs.length)) := by
  obtain ⟨h1, h2, h3, h4, h5⟩ := mapFold fs [] 0 (by intro e he; cases he) List.nodup_nil
  have h5' : (names fs).Nodup → mapTo fs = (entries fs 0, fs.length) := fun hn => by
    have := h5 hn (fun f _ => by simp [keysOf])
    rw [mapTo, this]; simp
  refine ⟨h1, by simpa [mapTo] using h3, ⟨fun h => (h4 (by simpa [mapTo] using h)).1, fun hn => ?_⟩, h5'⟩
  rw [h5' hn]
  exact entries_len fs 0
theorem mapTo_snoc (fs : List NFile) (f : NFile) : mapTo (fs ++ [f]) = mapStep (mapTo fs) f := by rw [mapTo, List.foldl_append]; rfl
end Go.Gp.Tryd
