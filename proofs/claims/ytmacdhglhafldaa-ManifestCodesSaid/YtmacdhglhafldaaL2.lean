/- Part of a proof: GpL2 -/
import Derived.Test.YtmacdhglhafldaaK14
import Derived.Test.YtmacdhglhafldaaK31
import Derived.Test.YtmacdhglhafldaaRows
import Derived.WalkKit
import Derived.ProofKit
import Derived.OpenShut
import Derived.ShutString
import Derived.ChangeOld
import Derived.SizedLaws

/- The law ManifestCodes: its row. -/
namespace Go.Gp.Try
open Go.Proofs Go.Proofs.Ytmacdhglhafldaa
open Go.ChangeShapes Go.WideShapes Go.ChangeAt Go.RowKit
open Go.ChangeMaps (open_string shut_string)
set_option linter.unusedVariables false
set_option linter.unusedSimpArgs false
set_option maxHeartbeats 4000000
set_option maxRecDepth 100000

theorem file_of {x : List AV} (h : OfT E 53 x) : ∃ f : File, x = f.row := by
  obtain ⟨hl, hx⟩ := OfT.struct_inv rfl rfl h
  obtain ⟨s, h1, _⟩ := OfT.str_inv rfl (hx 0 9 _ (by simp) rfl)
  obtain ⟨hl2, hx2⟩ := OfT.array_inv rfl rfl rfl (hx 1 31 _ (by simp) rfl)
  cases x with
  | nil => cases hl
  | cons a r =>
    have h1' : [a] = [AV.str s] := h1
    injection h1' with h1' _
    subst h1'
    have hr : r.length = 32 := Nat.succ.inj (show r.length + 1 = 33 from hl)
    have hb : ∀ k, k < 32 → ∃ v : UInt8, r[k]? = some (u8 v) := fun k hk => by
      obtain ⟨n, h3, h4⟩ := OfT.int_inv rfl (hx2 k hk)
      have h5 : (((r.take 32).drop (k * 1)).take 1) = [AV.int .u8 n] := h3
      rw [Nat.mul_one, List.take_of_length_le (show r.length ≤ 32 by omega)] at h5
      have h6 : r[k]? = some (.int .u8 n) := by
        have := congrArg (fun l => l[0]?) h5
        simpa using this
      have h7 : 0 ≤ n ∧ n ≤ 255 := by
        have h8 : (decide ((0 : Int) ≤ n) && decide (n ≤ 255)) = true := h4
        simpa using h8
      refine ⟨UInt8.ofNat n.toNat, ?_⟩
      rw [h6]
      show some (AV.int .u8 n) = some (.int .u8 ((UInt8.ofNat n.toNat).toNat : Int))
      rw [UInt8.toNat_ofNat']
      congr 2
      omega
    refine ⟨⟨s, fun k => if h : k < 32 then Classical.choose (hb k h) else 0⟩, ?_⟩
    show AV.str s :: r = AV.str s :: _
    congr 1
    apply List.ext_getElem?
    intro k
    rw [List.getElem?_map]
    by_cases hk : k < 32
    · rw [List.getElem?_range hk, Classical.choose_spec (hb k hk)]
      simp [hk]
    · rw [List.getElem?_eq_none (by omega), List.getElem?_eq_none (by simp; omega)]
      rfl

theorem files_of : ∀ {xs : List (List AV)}, (∀ x ∈ xs, OfT E 53 x) → ∃ fs, xs = rows fs
  | [], _ => ⟨[], rfl⟩
  | x :: xs, h => by
    obtain ⟨f, rfl⟩ := file_of (h x List.mem_cons_self)
    obtain ⟨fs, rfl⟩ := files_of fun y hy => h y (List.mem_cons_of_mem _ hy)
    exact ⟨f :: fs, rfl⟩

theorem man_of {l : List AV} (h : OfT E 27 l) : ∃ m : Man, l = m.cells .no ∧ m.fs.length ≤ 1000000000000000 ∧ 0 ≤ m.v ∧ m.v < 18446744073709551616 := by
  obtain ⟨hl, hx⟩ := OfT.struct_inv rfl rfl h
  have hl' : l.length = 4 := hl
  match l, hl' with
  | [x0, x1, x2, x3], _ =>
    obtain ⟨v, h0, hv⟩ := OfT.int_inv rfl (hx 0 22 _ (by simp) rfl)
    have hv' : 0 ≤ v ∧ v ≤ 18446744073709551615 := by
      have h8 : (decide ((0 : Int) ≤ v) && decide (v ≤ 18446744073709551615)) = true := hv
      simpa using h8
    have hw := hx 1 24 _ (by simp) rfl
    obtain ⟨_, hw⟩ := OfT.struct_inv rfl rfl hw
    obtain ⟨a, h1, _⟩ := OfT.int_inv rfl (hw 0 2 _ (by simp) rfl)
    obtain ⟨b, h2, _⟩ := OfT.int_inv rfl (hw 1 2 _ (by simp) rfl)
    obtain ⟨xs, h3, h4, h5⟩ := OfT.slice_inv rfl (hx 3 25 _ (by simp) rfl)
    obtain ⟨fs, rfl⟩ := files_of h4
    have e0 : [x0] = [AV.int .u64 v] := h0
    have e1 : [x1] = [AV.int .i64 a] := h1
    have e2 : [x2] = [AV.int .i64 b] := h2
    have e3 : [x3] = [AV.sl .no 33 (rows fs)] := h3
    injection e0 with e0 _
    injection e1 with e1 _
    injection e2 with e2 _
    injection e3 with e3 _
    subst e0; subst e1; subst e2; subst e3
    refine ⟨⟨v, a, b, fs⟩, rfl, ?_, hv'.1, by show v < _; omega⟩
    have h6 : (rows fs).length * 48 ≤ 140737488351232 := h5
    rw [rows_length] at h6
    show fs.length ≤ _
    omega
theorem man_arg {H : Type} {enc : TypeId × Value → H} {W : World} {b : Nat} {v : Value} {d : DataW H} {ps : List MemPlace} (hval : Value.okWide Try.prog W .any b 27 v) (h : DataW.Trod enc Try.prog W 0 (fun _ => true) true 27 v d ps)
    (hw : ∀ n ∈ d.weights Try.prog 27, n ≤ reachBytes) : ∃ m : Man, RelV (Cfg.bare W) (m.av .no) v ∧ m.fs.length ≤ 1000000000000000 ∧ 0 ≤ m.v ∧ m.v < 18446744073709551616 := by
  obtain ⟨cs, rfl, _⟩ := okWide_struct Try.underlying27 hval
  obtain ⟨fuel, hf⟩ := h
  obtain ⟨l, r, t⟩ := reads_of (E := E) 6 27 fuel _ d ps (by kernel_rfl) hf hw
  obtain ⟨m, rfl, hm⟩ := man_of t
  refine ⟨m, ?_, hm⟩
  have := RelV.agg (c := Cfg.bare W) cs.toList r.1 r.2
  rw [Array.toArray_toList] at this
  exact this

theorem byte_of {x : List AV} (h : OfT E 5 x) : ∃ v : UInt8, x = byteRow v := by
  obtain ⟨n, h3, h4⟩ := OfT.int_inv rfl h
  have h7 : 0 ≤ n ∧ n ≤ 255 := by
    have h8 : (decide ((0 : Int) ≤ n) && decide (n ≤ 255)) = true := h4
    simpa using h8
  refine ⟨UInt8.ofNat n.toNat, ?_⟩
  rw [h3]
  show [AV.int .u8 n] = [AV.int .u8 ((UInt8.ofNat n.toNat).toNat : Int)]
  rw [UInt8.toNat_ofNat']
  congr 2
  omega
theorem bytes_of : ∀ {xs : List (List AV)}, (∀ x ∈ xs, OfT E 5 x) → ∃ bs : List UInt8, xs = bs.map byteRow
  | [], _ => ⟨[], rfl⟩
  | x :: xs, h => by
    obtain ⟨f, rfl⟩ := byte_of (h x List.mem_cons_self)
    obtain ⟨fs, rfl⟩ := bytes_of fun y hy => h y (List.mem_cons_of_mem _ hy)
    exact ⟨f :: fs, rfl⟩
theorem bytes_arg {H : Type} {enc : TypeId × Value → H} {W : World} {b : Nat} {v : Value} {d : DataW H} {ps : List MemPlace} (hval : Value.okWide Try.prog W .any b 41 v) (h : DataW.Trod enc Try.prog W 0 (fun _ => true) true 41 v d ps)
    (hw : ∀ n ∈ d.weights Try.prog 41, n ≤ reachBytes) : ∃ s : List UInt8, RelV (Cfg.bare W) (.sl .no 1 (s.map byteRow)) v ∧ s.length ≤ 140737488355328 := by
  obtain ⟨a, len, cap, rfl⟩ := okWide_slice Try.underlying41 hval
  obtain ⟨fuel, hf⟩ := h
  obtain ⟨l, r, t⟩ := reads_of (E := E) 6 41 fuel _ d ps (by kernel_rfl) hf hw
  obtain ⟨xs, h3, h4, h5⟩ := OfT.slice_inv rfl t
  obtain ⟨bs, rfl⟩ := bytes_of h4
  subst h3
  refine ⟨bs, r.head, ?_⟩
  have h6 : (bs.map byteRow).length * 1 ≤ 140737488351232 := h5
  rw [List.length_map] at h6
  omega

theorem own : ownKnob Try.prog.godebug = none := by kernel_rfl
theorem laidOut : laidOutB Try.prog = true := by kernel_rfl

set_option maxRecDepth 100000 in
theorem codes_lifted (os : Os) (started : os.Started) (H : Type) (enc : TypeId × Value → H) :
    ReturnsInHanded {} Try.checked os 4 .any (Rows.manifestCodesSpec.pre6 enc Try.prog Try.f4 Rows.manifestCodesRow.domain false) (Rows.manifestCodesSpec.post enc Try.prog Try.f4 false true false false) := by
  refine returnsInHanded_of_change_sized (C := Try.checked) own started (by kernel_rfl) Try.func4
    (ChangeSpec.witness6 (enc := enc) (C := Try.checked) false ⟨#[], #[.agg #[.int .u64 0, .int .i64 0, .int .i64 0, .slice none 0 0], .slice none 0 0], []⟩ 8 (by kernel_rfl) (by kernel_rfl) (by kernel_rfl) (by kernel_rfl)) ?_
  intro W base args ds gs before hval0 hW hcnd hsz0 _
  have hsz : (DataW.weightsEach Try.prog (Try.f4.params.toList ++ Rows.manifestCodesSpec.plain.varTypes Try.prog) (ds ++ gs)).all (· ≤ reachBytes) = true := hsz0
  have hval : ∀ (j : Nat) t v, Try.f4.params[j]? = some t → args[j]? = some v → Value.okWide Try.prog W .any base t v := hval0
  have hW' := hW
  obtain ⟨p, q, hA0, hV, rfl, hfz, hnd⟩ := hW
  have hA : DataW.TrodAll enc Try.prog W 0 (fun _ => true) true Try.f4.params.toList args.toList ds p := hA0
  rw [Try.params4] at hA hval hsz
  obtain ⟨v0, vs0, d0, ds0, p0, q0, hargs, rfl, rfl, h0, r0⟩ := trodAll_cons hA
  obtain ⟨v1, vs1, d1, ds1, p1, q1, rfl, rfl, rfl, h1, r1⟩ := trodAll_cons r0
  obtain ⟨rfl, rfl, rfl⟩ := trodAll_nil r1
  obtain rfl : args = #[v0, v1] := by cases args; simp_all
  obtain ⟨rfl, rfl⟩ := trodVars_none hV
  have hw0 : ∀ n ∈ d0.weights Try.prog 27, n ≤ reachBytes := fun n hn => by simpa using List.all_eq_true.1 hsz n (DataW.weights_mem_each (j := 0) rfl rfl n hn)
  have hw1 : ∀ n ∈ d1.weights Try.prog 41, n ≤ reachBytes := fun n hn => by simpa using List.all_eq_true.1 hsz n (DataW.weights_mem_each (j := 1) rfl rfl n hn)
  obtain ⟨m0, g0, b0, c0, e0⟩ := man_arg (hval 0 27 v0 rfl rfl) h0 hw0
  obtain ⟨s1, g1, b1⟩ := bytes_arg (hval 1 41 v1 rfl rfl) h1 hw1
  have lt0 : ∀ x ∈ p0, x.block < W.heap.size := by obtain ⟨m, hm⟩ := h0; exact DataW.trod_lt m _ _ _ hm
  have lt1 : ∀ x ∈ p1, x.block < W.heap.size := by obtain ⟨m, hm⟩ := h1; exact DataW.trod_lt m _ _ _ hm
  clear hA0 hval0 hsz0 hsz
  refine (CallsA.law (E := E) (fun _ => rfl) Try.func4 rfl rfl (codes_A m0 s1 [] b0 b1 c0 e0) (vs := [v0, v1]) (RelL.cons g0 (RelL.cons g1 (RelL.nil _)))).mono fun e W' ⟨he, bel⟩ => ?_
  subst he
  exact ⟨_, rfl, _, _, _, [], _, [], hW', trodAll_mk1 (shut_bool Try.underlying4 _),
    (trodAll_cons_mk (Below.trod laidOut (by kernel_rfl) (of_decide_eq_true (by kernel_rfl)) h0 bel lt0) (trodAll_cons_mk (Below.trod laidOut (by kernel_rfl) (of_decide_eq_true (by kernel_rfl)) h1 bel lt1) trodAll_mk0)),
    rfl, bel.frame _, fun h => by cases h⟩

theorem codes_over : Rows.manifestCodesRow.holds Try.pinned (OpenSpec.ofChange Rows.manifestCodesSpec) :=
  OpenClaim.holds_of_wide 4 Try.f4 rfl rfl rfl rfl rfl rfl rfl ⟨rfl, rfl, rfl, rfl, rfl⟩ rfl rfl rfl rfl rfl (by kernel_rfl) Try.func4 (by kernel_rfl)
    (of_decide_eq_true (by kernel_rfl)) (by unfold Func.isWrapper; first | (rw [if_pos (by decide +kernel)]; kernel_rfl) | (rw [if_neg (by decide +kernel)]; exact ⟨rfl, rfl⟩))
    (fun os started H enc _ => codes_lifted os started H enc)
theorem codes_proved : Rows.ManifestCodesSaid := codes_over
#print axioms codes_proved
end Go.Gp.Try
namespace Go.Proofs.Ytmacdhglhafldaa
/-- The row, under a short name, for the claim. -/
theorem manifestCodes_holds : Rows.ManifestCodesSaid := Go.Gp.Try.codes_proved
end Go.Proofs.Ytmacdhglhafldaa
