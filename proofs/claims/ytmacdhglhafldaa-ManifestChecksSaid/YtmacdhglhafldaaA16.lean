/- From a walk to a law's row: what comes in, what goes out. -/
import Derived.Test.YtmacdhglhafldaaA15
namespace Go.Gp
open Go.RowKit
set_option linter.unusedVariables false
set_option linter.unusedSimpArgs false

theorem OfT.int_inv {E : Env} {t : Nat} {k : IntKind} {cs : List AV} (hs : (lookT E.T t).map TI.d = some (.int k)) (h : OfT E t cs) : ∃ n, cs = [.int k n] ∧ (Lit.int k n).wf = true := by
  cases h with
  | int h w => rw [hs] at h; injection h with h; injection h with h; subst h; exact ⟨_, rfl, w⟩
  | bool h => rw [hs] at h; cases h
  | str h => rw [hs] at h; cases h
  | slice h => obtain ⟨u, _⟩ := sliceOf_spec h; unfold sliceOf at h; cases hl : lookT E.T t with
    | none => rw [hl] at hs; simp at hs
    | some i => rw [hl] at hs h; simp at hs; simp [hs] at h
  | struct h hd => rw [h] at hs; simp [hd] at hs
  | array h hd => rw [h] at hs; simp [hd] at hs

theorem OfT.bool_inv {E : Env} {t : Nat} {cs : List AV} (hs : (lookT E.T t).map TI.d = some .basic) (h : OfT E t cs) : ∃ b, cs = [.bool b] := by
  cases h with
  | int h w => rw [hs] at h; cases h
  | bool h => exact ⟨_, rfl⟩
  | str h => rw [hs] at h; cases h
  | slice h => unfold sliceOf at h; cases hl : lookT E.T t with
    | none => rw [hl] at hs; simp at hs
    | some i => rw [hl] at hs h; simp at hs; simp [hs] at h
  | struct h hd => rw [h] at hs; simp [hd] at hs
  | array h hd => rw [h] at hs; simp [hd] at hs

theorem OfT.str_inv {E : Env} {t : Nat} {cs : List AV} (hs : (lookT E.T t).map TI.d = some .str) (h : OfT E t cs) : ∃ s, cs = [.str s] ∧ s.length ≤ reachBytes := by
  cases h with
  | int h w => rw [hs] at h; cases h
  | bool h => rw [hs] at h; cases h
  | str h hb => exact ⟨_, rfl, hb⟩
  | slice h => unfold sliceOf at h; cases hl : lookT E.T t with
    | none => rw [hl] at hs; simp at hs
    | some i => rw [hl] at hs h; simp at hs; simp [hs] at h
  | struct h hd => rw [h] at hs; simp [hd] at hs
  | array h hd => rw [h] at hs; simp [hd] at hs

theorem OfT.slice_inv {E : Env} {t e : Nat} {j : TI} {cs : List AV} (hs : sliceOf E.T t = some (e, j)) (h : OfT E t cs) : ∃ xs, cs = [.sl .no j.sz xs] ∧ (∀ x ∈ xs, OfT E e x) ∧ xs.length * j.bytes ≤ reachBytes := by
  have key : ∀ x, (lookT E.T t).map TI.d = some x → x = .slice e := fun x hx => by
    unfold sliceOf at hs
    cases hl : lookT E.T t with
    | none => rw [hl] at hx; simp at hx
    | some i =>
      rw [hl] at hx hs
      simp at hx
      simp only [hx] at hs
      split at hs <;> try (simp at hs; done)
      rename_i e' he
      split at hs <;> simp at hs
      rw [hs.1]
  cases h with
  | int h w => have := key _ h; cases this
  | bool h => have := key _ h; cases this
  | str h hb => have := key _ h; cases this
  | slice h hx hb => rw [hs] at h; injection h with h; injection h with h1 h2; subst h1; subst h2; exact ⟨_, rfl, hx, hb⟩
  | struct h hd => have := key _ (by rw [h]; rfl); rw [hd] at this; cases this
  | array h hd => have := key _ (by rw [h]; rfl); rw [hd] at this; cases this

theorem OfT.struct_inv {E : Env} {t : Nat} {i : TI} {fs : List (Nat × Nat)} {cs : List AV} (hi : lookT E.T t = some i) (hs : i.d = .struct fs) (h : OfT E t cs) :
    cs.length = i.sz ∧ ∀ off ft j, (off, ft) ∈ fs → lookT E.T ft = some j → OfT E ft ((cs.drop off).take j.sz) := by
  have hs' : (lookT E.T t).map TI.d = some (.struct fs) := by rw [hi]; simp [hs]
  cases h with
  | int h w => rw [hs'] at h; cases h
  | bool h => rw [hs'] at h; cases h
  | str h => rw [hs'] at h; cases h
  | slice h => unfold sliceOf at h; rw [hi] at h; simp [hs] at h
  | struct h hd hl hx => rw [hi] at h; injection h with h; subst h; rw [hs] at hd; injection hd with hd; subst hd; exact ⟨hl, hx⟩
  | array h hd => rw [hi] at h; injection h with h; subst h; rw [hs] at hd; cases hd

theorem OfT.array_inv {E : Env} {t n e : Nat} {i j : TI} {cs : List AV} (hi : lookT E.T t = some i) (hs : i.d = .array n e) (hj : lookT E.T e = some j) (h : OfT E t cs) :
    cs.length = i.sz ∧ ∀ k, k < n → OfT E e ((cs.drop (k * j.sz)).take j.sz) := by
  have hs' : (lookT E.T t).map TI.d = some (.array n e) := by rw [hi]; simp [hs]
  cases h with
  | int h w => rw [hs'] at h; cases h
  | bool h => rw [hs'] at h; cases h
  | str h => rw [hs'] at h; cases h
  | slice h => unfold sliceOf at h; rw [hi] at h; simp [hs] at h
  | struct h hd hl hx => rw [hi] at h; injection h with h; subst h; rw [hs] at hd; cases hd
  | array h hd hj' hl hx => rw [hi] at h; injection h with h; subst h; rw [hs] at hd; injection hd with e1 e2; subst e1; subst e2; rw [hj] at hj'; injection hj' with hj'; subst hj'; exact ⟨hl, hx⟩

theorem Ext.below {W w' : World} {ι : Nat → Option Nat} {H : List AObj} (h : Ext (Cfg.bare W) ⟨ι, H, w'⟩) : Below W.heap.size W w' :=
  { os := h.os, tape := h.tape, output := h.output, size := h.size, block := fun b hb => h.outer b hb (fun id o ho => by simp [Cfg.bare] at ho) }

/-- A law's walk, told of the machine. -/
theorem CallsA.law {E : Env} {g : FuncId} {args : List AV} {W : World} {vs : List Value} {fn : Func} {code : Code} (hG : ∀ k, E.G k = none) (hf : E.P.funcs[g]? = some fn) (hb : fn.body = some code) (hn : (fn.name == "runtime.NumGoroutine") = false)
    (h : CallsA E g args [] (Is [] (.bool true))) (hr : RelL (Cfg.bare W) args vs) : Calls E.P g vs.toArray W (fun e w' => e = .returned (.bool true) ∧ Below W.heap.size W w') := by
  have h1 := h.out (Cfg.bare W) vs rfl ⟨bare_hr W, fun k cs hk => by rw [hG] at hk; cases hk⟩ hr
  rw [run_callFunc_body hf hb hn] at h1
  refine Calls.mono h1 ?_
  rintro e w' ⟨ι, H', x, a1, a2, a3, rfl, rfl⟩
  cases e with
  | returned v => exact ⟨by rw [RelV.bool_inv a3], a1.below⟩
  | panicked ch => exact a3.elim
  | outgrown => exact a3.elim
end Go.Gp
