/- Part of a proof: GdK1, GdK2 -/
import Derived.Test.YtmacdhglhafldaaDoorK17
import Derived.Test.YtmacdhglhafldaaDoorK23
import Derived.WalkKit
import Derived.ProofKit
import Derived.OpenShut
import Derived.ShutString
import Derived.ChangeOld
import Derived.SizedLaws

/- What arguments of the laws' types read as. -/
namespace Go.Gp.Tryd
open Go.Proofs
open Go.ChangeShapes Go.WideShapes Go.ChangeAt Go.RowKit
open Go.ChangeMaps (open_string shut_string)
set_option linter.unusedVariables false
set_option linter.unusedSimpArgs false
set_option maxHeartbeats 4000000
set_option maxRecDepth 100000

theorem file_of {x : List AV} (h : OfT E 63 x) : ∃ f : File, x = f.row := by
  obtain ⟨hl, hx⟩ := OfT.struct_inv rfl rfl h
  obtain ⟨s, h1, _⟩ := OfT.str_inv rfl (hx 0 9 _ (by simp) rfl)
  obtain ⟨hl2, hx2⟩ := OfT.array_inv rfl rfl rfl (hx 1 61 _ (by simp) rfl)
  cases x with
  | nil => cases hl
  | cons a r =>
    have h1' : [a] = [AV.str s] := h1
    injection h1' with h1' _
    subst h1'
    have hr : r.length = 32 := Nat.succ.inj (show r.length + 1 = 33 from hl)
    have hb : ∀ k, k < 32 → ∃ v : UInt8, r[k]? = some (u8 v) := fun k hk => by
      obtain ⟨n, h3, h4⟩ := OfT.int_inv rfl (hx2 k hk)
      have h5 : (((r.take 32).drop (k * 1)).take 1) = [AV.int .u8 n] := h3
      rw [Nat.mul_one, List.take_of_length_le (show r.length ≤ 32 by omega)] at h5
      have h6 : r[k]? = some (.int .u8 n) := by
        have := congrArg (fun l => l[0]?) h5
        simpa using this
      have h7 : 0 ≤ n ∧ n ≤ 255 := by
        have h8 : (decide ((0 : Int) ≤ n) && decide (n ≤ 255)) = true := h4
        simpa using h8
      refine ⟨UInt8.ofNat n.toNat, ?_⟩
      rw [h6]
      show some (AV.int .u8 n) = some (.int .u8 ((UInt8.ofNat n.toNat).toNat : Int))
      rw [UInt8.toNat_ofNat']
      congr 2
      omega
    refine ⟨⟨s, fun k => if h : k < 32 then Classical.choose (hb k h) else 0⟩, ?_⟩
    show AV.str s :: r = AV.str s :: _
    congr 1
    apply List.ext_getElem?
    intro k
    rw [List.getElem?_map]
    by_cases hk : k < 32
    · rw [List.getElem?_range hk, Classical.choose_spec (hb k hk)]
      simp [hk]
    · rw [List.getElem?_eq_none (by omega), List.getElem?_eq_none (by simp; omega)]
      rfl

theorem files_of : ∀ {xs : List (List AV)}, (∀ x ∈ xs, OfT E 63 x) → ∃ fs, xs = rows fs
  | [], _ => ⟨[], rfl⟩
  | x :: xs, h => by
    obtain ⟨f, rfl⟩ := file_of (h x List.mem_cons_self)
    obtain ⟨fs, rfl⟩ := files_of fun y hy => h y (List.mem_cons_of_mem _ hy)
    exact ⟨f :: fs, rfl⟩

theorem man_of {l : List AV} (h : OfT E 27 l) : ∃ m : Man, l = m.cells .no ∧ m.fs.length ≤ 1000000000000000 ∧ 0 ≤ m.v ∧ m.v < 18446744073709551616 := by
  obtain ⟨hl, hx⟩ := OfT.struct_inv rfl rfl h
  have hl' : l.length = 4 := hl
  match l, hl' with
  | [x0, x1, x2, x3], _ =>
    obtain ⟨v, h0, hv⟩ := OfT.int_inv rfl (hx 0 22 _ (by simp) rfl)
    have hv' : 0 ≤ v ∧ v ≤ 18446744073709551615 := by
      have h8 : (decide ((0 : Int) ≤ v) && decide (v ≤ 18446744073709551615)) = true := hv
      simpa using h8
    have hw := hx 1 24 _ (by simp) rfl
    obtain ⟨_, hw⟩ := OfT.struct_inv rfl rfl hw
    obtain ⟨a, h1, _⟩ := OfT.int_inv rfl (hw 0 2 _ (by simp) rfl)
    obtain ⟨b, h2, _⟩ := OfT.int_inv rfl (hw 1 2 _ (by simp) rfl)
    obtain ⟨xs, h3, h4, h5⟩ := OfT.slice_inv rfl (hx 3 25 _ (by simp) rfl)
    obtain ⟨fs, rfl⟩ := files_of h4
    have e0 : [x0] = [AV.int .u64 v] := h0
    have e1 : [x1] = [AV.int .i64 a] := h1
    have e2 : [x2] = [AV.int .i64 b] := h2
    have e3 : [x3] = [AV.sl .no 33 (rows fs)] := h3
    injection e0 with e0 _
    injection e1 with e1 _
    injection e2 with e2 _
    injection e3 with e3 _
    subst e0; subst e1; subst e2; subst e3
    refine ⟨⟨v, a, b, fs⟩, rfl, ?_, hv'.1, by show v < _; omega⟩
    have h6 : (rows fs).length * 48 ≤ 140737488351232 := h5
    rw [rows_length] at h6
    show fs.length ≤ _
    omega
theorem man_arg {H : Type} {enc : TypeId × Value → H} {W : World} {b : Nat} {v : Value} {d : DataW H} {ps : List MemPlace} (hval : Value.okWide Tryd.prog W .any b 27 v) (h : DataW.Trod enc Tryd.prog W 0 (fun _ => true) true 27 v d ps)
    (hw : ∀ n ∈ d.weights Tryd.prog 27, n ≤ reachBytes) : ∃ m : Man, RelV (Cfg.bare W) (m.av .no) v ∧ m.fs.length ≤ 1000000000000000 ∧ 0 ≤ m.v ∧ m.v < 18446744073709551616 := by
  obtain ⟨cs, rfl, _⟩ := okWide_struct Tryd.underlying27 hval
  obtain ⟨fuel, hf⟩ := h
  obtain ⟨l, r, t⟩ := reads_of (E := E) 6 27 fuel _ d ps (by kernel_rfl) hf hw
  obtain ⟨m, rfl, hm⟩ := man_of t
  refine ⟨m, ?_, hm⟩
  have := RelV.agg (c := Cfg.bare W) cs.toList r.1 r.2
  rw [Array.toArray_toList] at this
  exact this

theorem byte_of {x : List AV} (h : OfT E 5 x) : ∃ v : UInt8, x = byteRow v := by
  obtain ⟨n, h3, h4⟩ := OfT.int_inv rfl h
  have h7 : 0 ≤ n ∧ n ≤ 255 := by
    have h8 : (decide ((0 : Int) ≤ n) && decide (n ≤ 255)) = true := h4
    simpa using h8
  refine ⟨UInt8.ofNat n.toNat, ?_⟩
  rw [h3]
  show [AV.int .u8 n] = [AV.int .u8 ((UInt8.ofNat n.toNat).toNat : Int)]
  rw [UInt8.toNat_ofNat']
  congr 2
  omega
theorem bytes_of : ∀ {xs : List (List AV)}, (∀ x ∈ xs, OfT E 5 x) → ∃ bs : List UInt8, xs = bs.map byteRow
  | [], _ => ⟨[], rfl⟩
  | x :: xs, h => by
    obtain ⟨f, rfl⟩ := byte_of (h x List.mem_cons_self)
    obtain ⟨fs, rfl⟩ := bytes_of fun y hy => h y (List.mem_cons_of_mem _ hy)
    exact ⟨f :: fs, rfl⟩
theorem own : ownKnob Tryd.prog.godebug = none := by kernel_rfl
theorem laidOut : laidOutB Tryd.prog = true := by kernel_rfl


end Go.Gp.Tryd

/- What arguments of the laws' types read as: files, names, numbers, windows. -/
namespace Go.Gp.Tryd
open Go.Proofs
open Go.ChangeShapes Go.WideShapes Go.ChangeAt Go.RowKit
open Go.ChangeMaps (open_string shut_string)
set_option linter.unusedVariables false
set_option linter.unusedSimpArgs false
set_option maxHeartbeats 4000000
set_option maxRecDepth 100000

theorem nfile_of {x : List AV} (h : OfT E 58 x) : ∃ f : NFile, x = f.row ∧ f.bytes.length ≤ 140737488355328 := by
  obtain ⟨hl, hx⟩ := OfT.struct_inv rfl rfl h
  obtain ⟨s, h1, _⟩ := OfT.str_inv rfl (hx 0 9 _ (by simp) rfl)
  obtain ⟨xs, h3, h4, h5⟩ := OfT.slice_inv rfl (hx 1 49 _ (by simp) rfl)
  obtain ⟨bs, rfl⟩ := bytes_of h4
  have hl' : x.length = 2 := hl
  match x, hl' with
  | [x0, x1], _ =>
    have e0 : [x0] = [AV.str s] := h1
    have e1 : [x1] = [AV.sl .no 1 (bs.map byteRow)] := h3
    injection e0 with e0 _
    injection e1 with e1 _
    subst e0; subst e1
    refine ⟨⟨s, bs⟩, rfl, ?_⟩
    have h6 : (bs.map byteRow).length * 1 ≤ 140737488351232 := h5
    rw [List.length_map] at h6
    show bs.length ≤ _
    omega
theorem nfiles_of : ∀ {xs : List (List AV)}, (∀ x ∈ xs, OfT E 58 x) → ∃ fs : List NFile, xs = nrows fs ∧ ∀ f ∈ fs, f.bytes.length ≤ 140737488355328
  | [], _ => ⟨[], rfl, fun _ h => by cases h⟩
  | x :: xs, h => by
    obtain ⟨f, rfl, h1⟩ := nfile_of (h x List.mem_cons_self)
    obtain ⟨fs, rfl, h2⟩ := nfiles_of fun y hy => h y (List.mem_cons_of_mem _ hy)
    exact ⟨f :: fs, rfl, fun g hg => by rcases List.mem_cons.1 hg with rfl | hg; exact h1; exact h2 g hg⟩
theorem files_arg {H : Type} {enc : TypeId × Value → H} {W : World} {b : Nat} {v : Value} {d : DataW H} {ps : List MemPlace} (hval : Value.okWide Tryd.prog W .any b 28 v) (h : DataW.Trod enc Tryd.prog W 0 (fun _ => true) true 28 v d ps)
    (hw : ∀ n ∈ d.weights Tryd.prog 28, n ≤ reachBytes) : ∃ fs : List NFile, RelV (Cfg.bare W) (.sl .no 2 (nrows fs)) v ∧ fs.length ≤ 1000000000000000 ∧ ∀ f ∈ fs, f.bytes.length ≤ 140737488355328 := by
  obtain ⟨a, len, cap, rfl⟩ := okWide_slice Tryd.underlying28 hval
  obtain ⟨fuel, hf⟩ := h
  obtain ⟨l, r, t⟩ := reads_of (E := E) 6 28 fuel _ d ps (by kernel_rfl) hf hw
  obtain ⟨xs, h3, h4, h5⟩ := OfT.slice_inv rfl t
  obtain ⟨fs, rfl, hb⟩ := nfiles_of h4
  subst h3
  refine ⟨fs, r.head, ?_, hb⟩
  have h6 : (nrows fs).length * 40 ≤ 140737488351232 := h5
  rw [nrows_len] at h6
  omega
theorem win_arg {H : Type} {enc : TypeId × Value → H} {W : World} {b : Nat} {v : Value} {d : DataW H} {ps : List MemPlace} (hval : Value.okWide Tryd.prog W .any b 24 v) (h : DataW.Trod enc Tryd.prog W 0 (fun _ => true) true 24 v d ps)
    (hw : ∀ n ∈ d.weights Tryd.prog 24, n ≤ reachBytes) : ∃ a e : Int, RelV (Cfg.bare W) (.agg [.int .i64 a, .int .i64 e]) v := by
  obtain ⟨cs, rfl, _⟩ := okWide_struct Tryd.underlying24 hval
  obtain ⟨fuel, hf⟩ := h
  obtain ⟨l, r, t⟩ := reads_of (E := E) 6 24 fuel _ d ps (by kernel_rfl) hf hw
  obtain ⟨hl, hx⟩ := OfT.struct_inv rfl rfl t
  obtain ⟨a, h1, _⟩ := OfT.int_inv rfl (hx 0 2 _ (by simp) rfl)
  obtain ⟨e, h2, _⟩ := OfT.int_inv rfl (hx 1 2 _ (by simp) rfl)
  have hl' : l.length = 2 := hl
  match l, hl' with
  | [x0, x1], _ =>
    have e0 : [x0] = [AV.int .i64 a] := h1
    have e1 : [x1] = [AV.int .i64 e] := h2
    injection e0 with e0 _
    injection e1 with e1 _
    subst e0; subst e1
    refine ⟨a, e, ?_⟩
    have := RelV.agg (c := Cfg.bare W) cs.toList r.1 r.2
    rw [Array.toArray_toList] at this
    exact this
theorem u64_arg {H : Type} {enc : TypeId × Value → H} {W : World} {b : Nat} {v : Value} {d : DataW H} {ps : List MemPlace} (hval : Value.okWide Tryd.prog W .any b 22 v) (h : DataW.Trod enc Tryd.prog W 0 (fun _ => true) true 22 v d ps)
    (hw : ∀ n ∈ d.weights Tryd.prog 22, n ≤ reachBytes) : ∃ a : Int, RelV (Cfg.bare W) (.int .u64 a) v ∧ 0 ≤ a ∧ a < 18446744073709551616 := by
  obtain ⟨x, rfl, _, _, wx⟩ := open_int Tryd.underlying22 hval h
  refine ⟨x, .int, ?_⟩
  have := wx
  simp [Lit.wf, IntKind.min, IntKind.max, IntKind.signed, IntKind.bits] at this
  omega
end Go.Gp.Tryd
