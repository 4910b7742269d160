/- Part of a proof: GhK3 -/
import Derived.Test.YtlmjiblfmhaicaaGreatDoorK15
import Derived.Test.YtlmjiblfmhaicaaGreatDoorK28
import Derived.WalkKit
import Derived.ProofKit
import Derived.OpenShut
import Derived.ShutString
import Derived.ChangeOld
import Derived.SizedLaws

set_option linter.unusedSectionVars false

/- What arguments of the laws' types read as: certificates. -/
namespace Go.Gp.Tryz
variable [Inhabited MaxLenT]
open Go.Proofs
open Go.ChangeShapes Go.WideShapes Go.ChangeAt Go.RowKit
open Go.ChangeMaps (open_string shut_string)
set_option linter.unusedVariables false
set_option linter.unusedSimpArgs false
set_option linter.unusedSectionVars false
set_option maxHeartbeats 4000000
set_option maxRecDepth 100000

theorem piece {l : List AV} (a b : Nat) : l.drop a = (l.drop a).take b ++ l.drop (a + b) := by
  rw [← List.drop_drop, List.take_append_drop]
theorem rows_of {α : Type} {f : α → List AV} {Q : α → Prop} : ∀ {xs : List (List AV)}, (∀ x ∈ xs, ∃ a, x = f a ∧ Q a) → ∃ l : List α, xs = l.map f ∧ ∀ a ∈ l, Q a
  | [], _ => ⟨[], rfl, fun _ h => by cases h⟩
  | x :: xs, h => by
    obtain ⟨a, rfl, ha⟩ := h x List.mem_cons_self
    obtain ⟨l, rfl, hl⟩ := rows_of fun y hy => h y (List.mem_cons_of_mem _ hy)
    exact ⟨a :: l, rfl, fun b hb => by rcases List.mem_cons.1 hb with rfl | hb; exact ha; exact hl b hb⟩
theorem u64_of {x : List AV} (h : OfT E 22 x) : ∃ n : Nat, x = [.int .u64 (n : Int)] ∧ n < 18446744073709551616 := by
  obtain ⟨v, h0, hv⟩ := OfT.int_inv rfl h
  have hv' : 0 ≤ v ∧ v ≤ 18446744073709551615 := by
    have h8 : (decide ((0 : Int) ≤ v) && decide (v ≤ 18446744073709551615)) = true := hv
    simpa using h8
  refine ⟨v.toNat, ?_, by omega⟩
  rw [h0]
  congr 2
  omega
theorem u32_of {x : List AV} (h : OfT E 73 x) : ∃ n : Nat, x = [.int .u32 (n : Int)] ∧ n < 4294967296 := by
  obtain ⟨v, h0, hv⟩ := OfT.int_inv rfl h
  have hv' : 0 ≤ v ∧ v ≤ 4294967295 := by
    have h8 : (decide ((0 : Int) ≤ v) && decide (v ≤ 4294967295)) = true := hv
    simpa using h8
  refine ⟨v.toNat, ?_, by omega⟩
  rw [h0]
  congr 2
  omega
theorem u8_of {x : List AV} (h : OfT E 5 x) : ∃ v : UInt8, x = [u8 v] := by
  obtain ⟨n, h3, h4⟩ := OfT.int_inv rfl h
  have h7 : 0 ≤ n ∧ n ≤ 255 := by
    have h8 : (decide ((0 : Int) ≤ n) && decide (n ≤ 255)) = true := h4
    simpa using h8
  refine ⟨UInt8.ofNat n.toNat, ?_⟩
  rw [h3]
  show [AV.int .u8 n] = [AV.int .u8 ((UInt8.ofNat n.toNat).toNat : Int)]
  rw [UInt8.toNat_ofNat']
  congr 2
  omega
theorem addr_of {x : List AV} (h : OfT E 81 x) : ∃ a : Ad, x = a.cells ∧ a.ok := by
  obtain ⟨hl, hx⟩ := OfT.struct_inv rfl rfl h
  obtain ⟨hi, h0, k0⟩ := u64_of (hx 0 22 _ (by simp) rfl)
  obtain ⟨lo, h1, k1⟩ := u64_of (hx 1 22 _ (by simp) rfl)
  refine ⟨⟨hi, lo⟩, ?_, k0, k1⟩
  have e : x = x.drop 0 := rfl
  have e2 : x.drop 2 = [] := List.drop_eq_nil_of_le (Nat.le_of_eq hl)
  rw [e, piece 0 1, piece (0 + 1) 1, show 0 + 1 + 1 = 2 from rfl, e2]
  have h0' : (x.drop 0).take 1 = [AV.int .u64 (hi : Int)] := h0
  have h1' : (x.drop (0 + 1)).take 1 = [AV.int .u64 (lo : Int)] := h1
  rw [h0', h1']
  rfl
theorem span_of {x : List AV} (h : OfT E 83 x) : ∃ s : Sp, x = s.cells ∧ s.ok := by
  obtain ⟨hl, hx⟩ := OfT.struct_inv rfl rfl h
  obtain ⟨f, h0, k0⟩ := addr_of (hx 0 81 _ (by simp) rfl)
  obtain ⟨t, h1, k1⟩ := addr_of (hx 2 81 _ (by simp) rfl)
  refine ⟨⟨f, t⟩, ?_, k0, k1⟩
  have e : x = x.drop 0 := rfl
  have e2 : x.drop 4 = [] := List.drop_eq_nil_of_le (Nat.le_of_eq hl)
  rw [e, piece 0 2, piece (0 + 2) 2, show 0 + 2 + 2 = 4 from rfl, e2]
  have h0' : (x.drop 0).take 2 = f.cells := h0
  have h1' : (x.drop (0 + 2)).take 2 = t.cells := h1
  rw [h0', h1']
  rfl
theorem as_of {x : List AV} (h : OfT E 75 x) : ∃ a : As, x = a.cells ∧ a.ok := by
  obtain ⟨hl, hx⟩ := OfT.struct_inv rfl rfl h
  obtain ⟨f, h0, k0⟩ := u32_of (hx 0 73 _ (by simp) rfl)
  obtain ⟨t, h1, k1⟩ := u32_of (hx 1 73 _ (by simp) rfl)
  refine ⟨⟨f, t⟩, ?_, k0, k1⟩
  have e : x = x.drop 0 := rfl
  have e2 : x.drop 2 = [] := List.drop_eq_nil_of_le (Nat.le_of_eq hl)
  rw [e, piece 0 1, piece (0 + 1) 1, show 0 + 1 + 1 = 2 from rfl, e2]
  have h0' : (x.drop 0).take 1 = [AV.int .u32 (f : Int)] := h0
  have h1' : (x.drop (0 + 1)).take 1 = [AV.int .u32 (t : Int)] := h1
  rw [h0', h1']
  rfl
theorem sh_of {x : List AV} (h : OfT E 26 x) : ∃ f : Nat → UInt8, x = shRow f := by
  obtain ⟨hl, hx⟩ := OfT.array_inv rfl rfl rfl h
  have hl' : x.length = 16 := hl
  have hb : ∀ k, k < 16 → ∃ v : UInt8, x[k]? = some (u8 v) := fun k hk => by
    obtain ⟨v, hv⟩ := u8_of (hx k hk)
    have h5 : (x.drop (k * 1)).take 1 = [u8 v] := hv
    rw [Nat.mul_one] at h5
    refine ⟨v, ?_⟩
    have := congrArg (fun l => l[0]?) h5
    simpa using this
  refine ⟨fun k => if h : k < 16 then Classical.choose (hb k h) else 0, ?_⟩
  apply List.ext_getElem?
  intro k
  rw [shRow, List.getElem?_map]
  by_cases hk : k < 16
  · rw [List.getElem?_range hk, Classical.choose_spec (hb k hk)]
    simp [hk]
  · rw [List.getElem?_eq_none (by omega), List.getElem?_eq_none (by simp; omega)]
    rfl
theorem win_of {x : List AV} (h : OfT E 24 x) : ∃ f t : Int, x = [.int .i64 f, .int .i64 t] := by
  obtain ⟨hl, hx⟩ := OfT.struct_inv rfl rfl h
  obtain ⟨f, h0, _⟩ := OfT.int_inv rfl (hx 0 2 _ (by simp) rfl)
  obtain ⟨t, h1, _⟩ := OfT.int_inv rfl (hx 1 2 _ (by simp) rfl)
  refine ⟨f, t, ?_⟩
  have e : x = x.drop 0 := rfl
  have e2 : x.drop 2 = [] := List.drop_eq_nil_of_le (Nat.le_of_eq hl)
  rw [e, piece 0 1, piece (0 + 1) 1, show 0 + 1 + 1 = 2 from rfl, e2]
  have h0' : (x.drop 0).take 1 = [AV.int .i64 f] := h0
  have h1' : (x.drop (0 + 1)).take 1 = [AV.int .i64 t] := h1
  rw [h0', h1']
  rfl
theorem key_of {x : List AV} (h : OfT E 28 x) : ∃ rt hh, x = keyC rt hh := by
  obtain ⟨hl, hx⟩ := OfT.struct_inv rfl rfl h
  obtain ⟨rt, h0⟩ := sh_of (hx 0 26 _ (by simp) rfl)
  obtain ⟨hh, h1, _⟩ := OfT.int_inv rfl (hx 16 3 _ (by simp) rfl)
  refine ⟨rt, hh, ?_⟩
  have e : x = x.drop 0 := rfl
  have e2 : x.drop 17 = [] := List.drop_eq_nil_of_le (Nat.le_of_eq hl)
  rw [e, piece 0 16, piece (0 + 16) 1, show 0 + 16 + 1 = 17 from rfl, e2]
  have h0' : (x.drop 0).take 16 = shRow rt := h0
  have h1' : (x.drop (0 + 16)).take 1 = [AV.int .i64 hh] := h1
  rw [h0', h1']
  rfl
theorem res_of {x : List AV} (h : OfT E 32 x) : ∃ r : Res, x = r.cells ∧ r.ok := by
  obtain ⟨hl, hx⟩ := OfT.struct_inv rfl rfl h
  obtain ⟨x4, h0, k0, _⟩ := OfT.slice_inv rfl (hx 0 29 _ (by simp) rfl)
  obtain ⟨x6, h1, k1, _⟩ := OfT.slice_inv rfl (hx 1 29 _ (by simp) rfl)
  obtain ⟨xa, h2, k2, _⟩ := OfT.slice_inv rfl (hx 2 30 _ (by simp) rfl)
  obtain ⟨v4, rfl, q0⟩ := rows_of (f := Sp.cells) (Q := Sp.ok) fun x hx => span_of (k0 x hx)
  obtain ⟨v6, rfl, q1⟩ := rows_of (f := Sp.cells) (Q := Sp.ok) fun x hx => span_of (k1 x hx)
  obtain ⟨sy, rfl, q2⟩ := rows_of (f := As.cells) (Q := As.ok) fun x hx => as_of (k2 x hx)
  refine ⟨⟨v4, v6, sy⟩, ?_, q0, q1, q2⟩
  have e : x = x.drop 0 := rfl
  have e2 : x.drop 3 = [] := List.drop_eq_nil_of_le (Nat.le_of_eq hl)
  rw [e, piece 0 1, piece (0 + 1) 1, piece (0 + 1 + 1) 1, show 0 + 1 + 1 + 1 = 3 from rfl, e2]
  have h0' : (x.drop 0).take 1 = [AV.sl .no 4 (v4.map Sp.cells)] := h0
  have h1' : (x.drop (0 + 1)).take 1 = [AV.sl .no 4 (v6.map Sp.cells)] := h1
  have h2' : (x.drop (0 + 1 + 1)).take 1 = [AV.sl .no 2 (sy.map As.cells)] := h2
  rw [h0', h1', h2']
  rfl
theorem sig_of {x : List AV} (h : OfT E 35 x) : ∃ idx ch pa, x = sigC idx (shRows ch) (shRows pa) := by
  obtain ⟨hl, hx⟩ := OfT.struct_inv rfl rfl h
  obtain ⟨idx, h0, _⟩ := OfT.int_inv rfl (hx 0 3 _ (by simp) rfl)
  obtain ⟨xc, h1, k1, _⟩ := OfT.slice_inv rfl (hx 1 33 _ (by simp) rfl)
  obtain ⟨xp, h2, k2, _⟩ := OfT.slice_inv rfl (hx 2 33 _ (by simp) rfl)
  obtain ⟨ch, rfl, _⟩ := rows_of (f := shRow) (Q := fun _ => True) fun x hx => by obtain ⟨f, hf⟩ := sh_of (k1 x hx); exact ⟨f, hf, trivial⟩
  obtain ⟨pa, rfl, _⟩ := rows_of (f := shRow) (Q := fun _ => True) fun x hx => by obtain ⟨f, hf⟩ := sh_of (k2 x hx); exact ⟨f, hf, trivial⟩
  refine ⟨idx, ch, pa, ?_⟩
  have e : x = x.drop 0 := rfl
  have e2 : x.drop 3 = [] := List.drop_eq_nil_of_le (Nat.le_of_eq hl)
  rw [e, piece 0 1, piece (0 + 1) 1, piece (0 + 1 + 1) 1, show 0 + 1 + 1 + 1 = 3 from rfl, e2]
  have h0' : (x.drop 0).take 1 = [AV.int .i64 idx] := h0
  have h1' : (x.drop (0 + 1)).take 1 = [AV.sl .no 16 (ch.map shRow)] := h1
  have h2' : (x.drop (0 + 1 + 1)).take 1 = [AV.sl .no 16 (pa.map shRow)] := h2
  rw [h0', h1', h2']
  rfl
theorem crt_of {x : List AV} (h : OfT E 37 x) : ∃ c : Crt, x = c.cells ∧ c.any := by
  obtain ⟨hl, hx⟩ := OfT.struct_inv rfl rfl h
  obtain ⟨serial, h0, k0⟩ := u64_of (hx 0 22 _ (by simp) rfl)
  obtain ⟨issuer, h1, _⟩ := OfT.str_inv rfl (hx 1 9 _ (by simp) rfl)
  obtain ⟨subject, h2, _⟩ := OfT.str_inv rfl (hx 2 9 _ (by simp) rfl)
  obtain ⟨f, t, h3⟩ := win_of (hx 3 24 _ (by simp) rfl)
  obtain ⟨rt, hh, h4⟩ := key_of (hx 5 28 _ (by simp) rfl)
  obtain ⟨ca, h5⟩ := OfT.bool_inv rfl (hx 22 4 _ (by simp) rfl)
  obtain ⟨inh, h6⟩ := OfT.bool_inv rfl (hx 23 4 _ (by simp) rfl)
  obtain ⟨r, h7, hr⟩ := res_of (hx 24 32 _ (by simp) rfl)
  obtain ⟨repo, h8, _⟩ := OfT.str_inv rfl (hx 27 9 _ (by simp) rfl)
  obtain ⟨man, h9, _⟩ := OfT.str_inv rfl (hx 28 9 _ (by simp) rfl)
  obtain ⟨notify, h10, _⟩ := OfT.str_inv rfl (hx 29 9 _ (by simp) rfl)
  obtain ⟨crl, h11, _⟩ := OfT.str_inv rfl (hx 30 9 _ (by simp) rfl)
  obtain ⟨parent, h12, _⟩ := OfT.str_inv rfl (hx 31 9 _ (by simp) rfl)
  obtain ⟨idx, ch, pa, h13⟩ := sig_of (hx 32 35 _ (by simp) rfl)
  refine ⟨⟨(serial : Int), issuer, subject, f, t, rt, hh, ca, inh, r, repo, man, notify, crl, parent, idx, shRows ch, shRows pa⟩, ?_, Int.natCast_nonneg _, hr, ⟨ch, rfl⟩, ⟨pa, rfl⟩⟩
  have e : x = x.drop 0 := rfl
  have e2 : x.drop 35 = [] := List.drop_eq_nil_of_le (Nat.le_of_eq hl)
  have d0 : x.drop 0 = [AV.int .u64 (serial : Int)] ++ x.drop 1 := by rw [piece 0 1]; congr 1
  have d1 : x.drop 1 = [AV.str issuer] ++ x.drop 2 := by rw [piece 1 1]; congr 1
  have d2 : x.drop 2 = [AV.str subject] ++ x.drop 3 := by rw [piece 2 1]; congr 1
  have d3 : x.drop 3 = [AV.int .i64 f, .int .i64 t] ++ x.drop 5 := by rw [piece 3 2]; congr 1
  have d4 : x.drop 5 = keyC rt hh ++ x.drop 22 := by rw [piece 5 17]; congr 1
  have d5 : x.drop 22 = [AV.bool ca] ++ x.drop 23 := by rw [piece 22 1]; congr 1
  have d6 : x.drop 23 = [AV.bool inh] ++ x.drop 24 := by rw [piece 23 1]; congr 1
  have d7 : x.drop 24 = r.cells ++ x.drop 27 := by rw [piece 24 3]; congr 1
  have d8 : x.drop 27 = [AV.str repo] ++ x.drop 28 := by rw [piece 27 1]; congr 1
  have d9 : x.drop 28 = [AV.str man] ++ x.drop 29 := by rw [piece 28 1]; congr 1
  have d10 : x.drop 29 = [AV.str notify] ++ x.drop 30 := by rw [piece 29 1]; congr 1
  have d11 : x.drop 30 = [AV.str crl] ++ x.drop 31 := by rw [piece 30 1]; congr 1
  have d12 : x.drop 31 = [AV.str parent] ++ x.drop 32 := by rw [piece 31 1]; congr 1
  have d13 : x.drop 32 = sigC idx (shRows ch) (shRows pa) ++ x.drop 35 := by rw [piece 32 3]; congr 1
  rw [e, d0, d1, d2, d3, d4, d5, d6, d7, d8, d9, d10, d11, d12, d13, e2]
  unfold Crt.cells Crt.head Crt.tail Res.cells sigC
  simp
theorem crt_arg {H : Type} {enc : TypeId × Value → H} {W : World} {b : Nat} {v : Value} {d : DataW H} {ps : List MemPlace} (hval : Value.okWide Tryz.prog W .any b 37 v) (h : DataW.Trod enc Tryz.prog W 0 (fun _ => true) true 37 v d ps)
    (hw : ∀ n ∈ d.weights Tryz.prog 37, n ≤ reachBytes) : ∃ c : Crt, RelV (Cfg.bare W) (.agg c.cells) v ∧ c.any := by
  obtain ⟨cs, rfl, _⟩ := okWide_struct Tryz.underlying37 hval
  obtain ⟨fuel, hf⟩ := h
  obtain ⟨l, r, t⟩ := reads_of (E := E) 6 37 fuel _ d ps (by kernel_rfl) hf hw
  obtain ⟨c, rfl, hc⟩ := crt_of t
  refine ⟨c, ?_, hc⟩
  have := RelV.agg (c := Cfg.bare W) cs.toList r.1 r.2
  rw [Array.toArray_toList] at this
  exact this
end Go.Gp.Tryz
