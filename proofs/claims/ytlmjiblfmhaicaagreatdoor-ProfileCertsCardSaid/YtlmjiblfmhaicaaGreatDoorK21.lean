/- Part of a proof: GhB4, GhQ24, GhQ21, GhQ25 -/
import Derived.Test.YtlmjiblfmhaicaaGreatDoorK9
import Derived.Test.YtlmjiblfmhaicaaGreatDoorK10
import Derived.Test.YtlmjiblfmhaicaaGreatDoorK13
import Derived.Test.YtlmjiblfmhaicaaGreatDoorK14
import Derived.Test.YtlmjiblfmhaicaaGreatDoorK18
import Derived.Test.YtlmjiblfmhaicaaGreatDoorK19
import Derived.Test.YtlmjiblfmhaicaaGreatDoorK20
import Derived.Lib.AtoiErrMem

set_option linter.unusedSectionVars false

/- strconv.Atoi, as contracts of the layer. -/
namespace Go.Gp.Tryz
variable [Inhabited MaxLenT]
open Go.Proofs Go.RowKit
set_option linter.unusedVariables false
set_option linter.unusedSimpArgs false
set_option linter.unusedSectionVars false
set_option maxHeartbeats 4000000

theorem atoi_ok_A (s : List UInt8) (v : Int) (H : List AObj) (hs : s.length ≤ 1000000) (h : Lib.atoiAll s = .ok v) : CallsA E 79 [.str s] H (Is H (.tup [.int .i64 v, .nili])) := by
  refine .lib Tryz.func79 rfl rfl fun c vs hH ho hr => ?_
  obtain rfl := str_args1 hr
  refine (Tryz.strconv_Atoi_ok ⟨s.toArray⟩ (by rw [ba_size]; omega) v h c.w).mono ?_
  rintro e w' ⟨rfl, hw⟩
  refine ⟨?_, _, rfl, ?_⟩
  · rcases hw with rfl | ⟨t, rfl⟩
    · exact Below.refl _ _
    · exact Lib.bytesWorld_below _ _ _
  · exact .tup [_, _] rfl (fun i a v h1 h2 => by
      match i with
      | 0 => cases h1; cases h2; exact .int
      | 1 => cases h1; cases h2; exact .nili
      | _ + 2 => cases h1)
theorem atoi_syntax_A (s : List UInt8) (H : List AObj) (hs : s.length ≤ 1000000) (h : Lib.atoiAll s = Lib.atoiAll []) : CallsA E 79 [.str s] H (Is H (.tup [.int .i64 0, .iface 151 .unk])) := by
  refine .lib Tryz.func79 rfl rfl fun c vs hH ho hr => ?_
  obtain rfl := str_args1 hr
  obtain ⟨v, hv, hvr⟩ := glob_cell (g := 1) (a := .iface 182 .unk) ho rfl
  cases hvr with
  | iface hx =>
    refine (Tryz.strconv_Atoi_syntax ⟨s.toArray⟩ (by rw [ba_size]; omega) h _ c.w hv (.inr ⟨_, _, rfl⟩)).mono ?_
    rintro e w' ⟨N, rfl, _, _, hb⟩
    refine ⟨hb, _, rfl, ?_⟩
    exact .tup [_, _] rfl (fun i a v h1 h2 => by
      match i with
      | 0 => cases h1; cases h2; exact .int
      | 1 => cases h1; cases h2; exact .iface .unk
      | _ + 2 => cases h1)
theorem atoi_range_A (s : List UInt8) (H : List AObj) (hs : s.length ≤ 1000000) (h : Lib.atoiAll s = .range) : CallsA E 79 [.str s] H (Is H (.tup [.int .i64 (Lib.atoiSat s), .iface 151 .unk])) := by
  refine .lib Tryz.func79 rfl rfl fun c vs hH ho hr => ?_
  obtain rfl := str_args1 hr
  obtain ⟨v, hv, hvr⟩ := glob_cell (g := 2) (a := .iface 182 .unk) ho rfl
  cases hvr with
  | iface hx =>
    refine (Tryz.strconv_Atoi_range ⟨s.toArray⟩ (by rw [ba_size]; omega) h _ c.w hv (.inr ⟨_, _, rfl⟩)).mono ?_
    rintro e w' ⟨N, rfl, _, _, hb⟩
    refine ⟨hb, _, rfl, ?_⟩
    exact .tup [_, _] rfl (fun i a v h1 h2 => by
      match i with
      | 0 => cases h1; cases h2; exact .int
      | 1 => cases h1; cases h2; exact .iface .unk
      | _ + 2 => cases h1)
end Go.Gp.Tryz

/- Locators: the program's Parse. -/
namespace Go.Gp.Tryz
variable [Inhabited MaxLenT]
open Go.Proofs
set_option linter.unusedVariables false
set_option linter.unusedSimpArgs false
set_option linter.unusedSectionVars false
set_option maxHeartbeats 4000000

/-! ### Sizes -/
theorem cut_len (s p : List UInt8) : (Lib.cut s p).1.length ≤ s.length ∧ (Lib.cut s p).2.1.length ≤ s.length := by
  unfold Lib.cut
  split
  · simp; omega
  · simp
theorem join_bound : ∀ ps : List (List UInt8), (∀ p ∈ ps, p.length ≤ 200) → (Lib.join ps [47]).length ≤ ps.length * 201
  | [], _ => by simp [Lib.join_nil]
  | [p], h => by rw [Lib.join_one]; have := h p List.mem_cons_self; simp; omega
  | p :: q :: ps, h => by
    have ih := join_bound (q :: ps) (fun x hx => h x (List.mem_cons_of_mem _ hx))
    have := h p List.mem_cons_self
    rw [join_two]
    simp only [List.length_append, List.length_cons] at ih ⊢
    omega
theorem atoi_le {l : List UInt8} {n : Int} (h : Lib.atoiAll l = .ok n) (h1 : ¬ n < 1) : n ≤ 9223372036854775807 := by
  unfold Lib.atoiAll at h
  split at h
  · cases h
  · dsimp only at h
    split at h
    · cases h
    · cases h
    · split at h
      · cases h
      · split at h
        · cases h
        · injection h with h
          rename_i g1 g2
          split at h
          · omega
          · omega

/-! ### The closure -/
abbrev strB (s : List UInt8) : AObj := .cells [.str s]
theorem cut1_A (r mk : List UInt8) (m j : Nat) (H : List AObj) (hr : r.length ≤ 1000000) (hH : H[m + j]? = some (strB r)) :
    CallsA E 77 [.str mk, .ptr m j 0] H (fun e H' => H' = H.set (m + j) (strB (Lib.cut r mk).2.1) ∧ e = .ret (.tup [.str (Lib.cut r mk).1, .bool (Lib.cut r mk).2.2])) := by
  have hC := fun X => cut_A r mk X (by omega)
  unfold cutAV at hC
  generalize Lib.cut r mk = c at *
  obtain ⟨c1, c2, c3⟩ := c
  refine .enter Tryz.func77 rfl rfl rfl 18 Tryz.ntmps77 (Nat.le_of_ble_eq_true rfl) ?_
  repeat' first
    | refine WpA.seq ?_
    | refine WpA.region ?_
    | refine WpOps.op _ rfl rfl rfl rfl rfl ?_
    | (refine WpOps.call rfl rfl rfl rfl rfl (by exact hC _) ?_; rintro _ _ ⟨rfl, rfl⟩)
    | (refine WpOps.loadOut _ rfl rfl rfl rfl rfl hH rfl rfl rfl ?_)
    | (refine WpOps.storeOut rfl rfl rfl rfl hH rfl rfl rfl rfl rfl ?_)
    | refine WpOps.nil ?_
    | refine WpA.ret ?_
  exact retK.sub (.inr rfl) (by simp) (TrOk.set1 (obd_cells (by intro x hx; have := List.mem_singleton.1 hx; subst this; exact .str))) («as» := [.str c1, .bool c3]) rfl rfl (Sub.refl _) (.tup (by
    intro x hx
    rcases List.mem_cons.1 hx with rfl | hx
    · exact .str
    · have := List.mem_singleton.1 hx; subst this; exact .bool)) ⟨rfl, rfl⟩

/-! ### Results -/
def locAV (l : Loc) (e : Int) : AV := .tup [.agg l.cells, .int .i64 e]
theorem loc_bd (n : Nat) (l : Loc) (e : Int) : Bd n (locAV l e) := .tup fun x hx => by
  simp only [List.mem_cons, List.not_mem_nil, or_false] at hx
  rcases hx with rfl | rfl
  · refine .agg fun y hy => ?_
    simp only [Loc.cells, List.mem_cons, List.not_mem_nil, or_false] at hy
    rcases hy with rfl | rfl | rfl | rfl | rfl
    · exact .int
    · exact .str
    · exact .int
    · refine .sl (fun _ _ e => by cases e) fun x hx e he => ?_
      obtain ⟨s, _, rfl⟩ := List.mem_map.1 hx
      have := List.mem_singleton.1 he
      subst this
      exact .str
    · exact .bool
  · exact .int
abbrev zeroC : List AV := [.int .u8 0, .str [], .int .i64 0, .sl .full 0 [], .bool false]
theorem zeroLoc_sub : Sub (.tup [.agg zeroC, .int .i64 12]) (locAV Loc.zero 12) :=
  Sub.tup (vs := [.agg Loc.zero.cells, .int .i64 12]) ⟨Sub.agg (vs := [.int .u8 0, .str [], .int .i64 0, .sl .no 1 [], .bool false]) ⟨Sub.refl _, Sub.refl _, Sub.refl _, Sub.empty, Sub.refl _, trivial⟩, Sub.refl _, trivial⟩
theorem parse_fail {H L : List AObj} {rs : List ResultVar} {t : Slots} (h : resL L E.T t rs = some [.agg zeroC, .int .i64 12]) (hn : resN H.length t rs = rs.map (fun _ => H.length)) : retK E rs H (Is H (locAV Loc.zero 12)) .ret t (H ++ L) :=
  retK.sub (.inr rfl) rfl (TrOk.refl H) h hn zeroLoc_sub (loc_bd _ _ _) ⟨rfl, rfl⟩
abbrev schMap : List AEntry := [(.str [114, 115, 121, 110, 99], .int .u8 1, 0), (.str [104, 116, 116, 112, 115], .int .u8 2, 1)]
theorem schLook {ei : TI} (h : zeroV ei = .int .u8 0) (a : List UInt8) : (lookM ei schMap (.str a)).1 = .int .u8 (schOf a) := by
  by_cases h1 : a = [114, 115, 121, 110, 99]
  · subst h1; rfl
  · by_cases h2 : a = [104, 116, 116, 112, 115]
    · subst h2; rfl
    · have e1 : (a == [114, 115, 121, 110, 99]) = false := by simpa using h1
      have e2 : (a == [104, 116, 116, 112, 115]) = false := by simpa using h2
      have hf : findA (.str a) schMap = none := by
        simp only [schMap, findA, keyB, e1, e2, cond_false, Option.map_none]
      rw [lookM, hf]
      unfold schOf rsyncS httpsS
      rw [if_neg h1, if_neg h2]
      exact h
theorem Parse_A (s : List UInt8) (H : List AObj) (hs : s.length ≤ 1000000) : CallsA E 57 [.str s] H (Is H (locAV (parseE s).1 (parseE s).2)) := by
  have hF : ∀ (L : List AObj) (r mk : List UInt8), L[2]? = some (strB r) → r.length ≤ 1000000 → CallsA E 77 [.str mk, .ptr H.length 2 0] (H ++ L) (fun e H' => H' = H ++ L.set 2 (strB (Lib.cut r mk).2.1) ∧ e = .ret (.tup [.str (Lib.cut r mk).1, .bool (Lib.cut r mk).2.2])) := fun L r mk h hr => by
    have := cut1_A r mk H.length 2 (H ++ L) hr (app_get rfl h)
    rw [set_app] at this
    exact this
  refine .enter Tryz.func57 rfl rfl rfl 115 Tryz.ntmps57 (Nat.le_of_ble_eq_true rfl) ?_
  by_cases h200 : 200 < s.length
  · have hd : decide (((s.length : Nat) : Int) > 200) = true := decide_eq_true (by omega)
    have he : parseE s = (Loc.zero, 12) := by rw [parseE, candP, if_pos h200]; rfl
    rw [he]
    repeat' first
      | refine WpA.condT (congrArg AV.bool hd) ?_
      | refine WpA.seq ?_
      | refine WpA.region ?_
      | refine WpOps.op _ rfl rfl rfl rfl rfl ?_
      | refine WpOps.alloc _ rfl rfl rfl rfl rfl rfl ?_
      | refine WpOps.store rfl rfl rfl rfl rfl rfl rfl rfl rfl rfl ?_
      | refine WpOps.build _ rfl rfl rfl rfl rfl ?_
      | refine WpOps.nil ?_
      | refine WpA.ret ?_
    exact parse_fail rfl rfl
  have hd : decide (((s.length : Nat) : Int) > 200) = false := decide_eq_false (by omega)
  have hca : candP s = if (Lib.cut s markS).2.2 = false ∨ schOf (Lib.cut s markS).1 = 0 then none else (portP (Lib.cut (Lib.cut (Lib.cut s markS).2.1 [47]).1 [58])).map fun n => ⟨schOf (Lib.cut s markS).1, (Lib.cut (Lib.cut (Lib.cut s markS).2.1 [47]).1 [58]).1, n, (lpF 11 (Lib.cut (Lib.cut s markS).2.1 [47]).2.1 [] false).1, (lpF 11 (Lib.cut (Lib.cut s markS).2.1 [47]).2.1 [] false).2 || decide ((lpF 11 (Lib.cut (Lib.cut s markS).2.1 [47]).2.1 [] false).1 = [])⟩ := by rw [candP, if_neg h200]; rfl
  have hla := cut_len s markS
  have hFa : ∀ L : List AObj, L[2]? = some (strB s) → CallsA E 77 [.str markS, .ptr H.length 2 0] (H ++ L) (fun e H' => H' = H ++ L.set 2 (strB (Lib.cut s markS).2.1) ∧ e = .ret (.tup [.str (Lib.cut s markS).1, .bool (Lib.cut s markS).2.2])) := fun L h => hF L s markS h hs
  have hsl := schLook (ei := Tryz.t5) rfl (Lib.cut s markS).1
  have hml : ∀ x : List UInt8, x = markS → CallsA E 0 [] [] (Is [] .unk) ∨ True := fun _ _ => .inr trivial
  clear hml
  generalize Lib.cut s markS = a at *
  obtain ⟨a1, a2, a3⟩ := a
  generalize schOf a1 = sc at *
  have hbd0 : ∀ e ∈ ([] : List AEntry), keyK TD.str e.1 = true := fun e h => by cases h
  have hbd1 : ∀ e ∈ [((.str [114, 115, 121, 110, 99], .int .u8 1, 0) : AEntry)], keyK TD.str e.1 = true := fun e h => by have := List.mem_singleton.1 h; subst this; rfl
  have hbd2 : ∀ e ∈ schMap, keyK TD.str e.1 = true := fun e h => by
    rcases List.mem_cons.1 h with rfl | h
    · rfl
    · have := List.mem_singleton.1 h; subst this; rfl
  by_cases hbad : a3 = false ∨ sc = 0
  · have he : parseE s = (Loc.zero, 12) := by rw [parseE, hca, if_pos hbad]; rfl
    rw [he]
    cases a3 with
    | false =>
      repeat' first
        | refine WpA.condF (congrArg AV.bool hd) ?_
        | refine WpA.seq ?_
        | refine WpA.region ?_
        | refine WpOps.op _ rfl rfl rfl rfl rfl ?_
        | refine WpOps.alloc _ rfl rfl rfl rfl rfl rfl ?_
        | refine WpOps.store rfl rfl rfl rfl rfl rfl rfl rfl rfl rfl ?_
        | refine WpOps.skip rfl rfl rfl ?_
        | refine WpOps.build _ rfl rfl rfl rfl rfl ?_
        | (refine WpOps.call rfl rfl rfl rfl rfl (by exact hFa _ rfl) ?_; rintro _ _ ⟨rfl, rfl⟩)
        | (refine WpOps.p1 rfl rfl rfl (.makeMap rfl) ?_)
        | (refine WpOps.u1h (H ++ [.cells zeroC, .cells zeroC, strB a2, .map [(.str [114, 115, 121, 110, 99], .int .u8 1, 0)] 1]) rfl rfl (.mapUpdate (.inr rfl) rfl rfl (app_get (j := 3) rfl rfl) rfl rfl rfl hbd0) (by rw [set_app]; rfl) ?_)
        | (refine WpOps.u1h (H ++ [.cells zeroC, .cells zeroC, strB a2, .map schMap 2]) rfl rfl (.mapUpdate (.inr rfl) rfl rfl (app_get (j := 3) rfl rfl) rfl rfl rfl hbd1) (by rw [set_app]; rfl) ?_)
        | (refine WpOps.p1 rfl rfl rfl (.lookupV rfl rfl rfl (app_get (j := 3) rfl rfl) rfl rfl hbd2 hsl) ?_)
        | refine WpOps.nil ?_
        | refine WpA.ret ?_
        | refine WpA.skip ?_
        | refine WpA.condT rfl ?_
      exact parse_fail rfl rfl
    | true =>
      have hz : (sc == 0) = true := by rcases hbad with h | h; cases h; simpa using h
      repeat' first
        | refine WpA.condF (congrArg AV.bool hd) ?_
        | refine WpA.condT (congrArg AV.bool hz) ?_
        | refine WpA.seq ?_
        | refine WpA.region ?_
        | refine WpOps.op _ rfl rfl rfl rfl rfl ?_
        | refine WpOps.alloc _ rfl rfl rfl rfl rfl rfl ?_
        | refine WpOps.store rfl rfl rfl rfl rfl rfl rfl rfl rfl rfl ?_
        | refine WpOps.build _ rfl rfl rfl rfl rfl ?_
        | (refine WpOps.call rfl rfl rfl rfl rfl (by exact hFa _ rfl) ?_; rintro _ _ ⟨rfl, rfl⟩)
        | (refine WpOps.p1 rfl rfl rfl (.makeMap rfl) ?_)
        | (refine WpOps.u1h (H ++ [.cells zeroC, .cells zeroC, strB a2, .map [(.str [114, 115, 121, 110, 99], .int .u8 1, 0)] 1]) rfl rfl (.mapUpdate (.inr rfl) rfl rfl (app_get (j := 3) rfl rfl) rfl rfl rfl hbd0) (by rw [set_app]; rfl) ?_)
        | (refine WpOps.u1h (H ++ [.cells zeroC, .cells zeroC, strB a2, .map schMap 2]) rfl rfl (.mapUpdate (.inr rfl) rfl rfl (app_get (j := 3) rfl rfl) rfl rfl rfl hbd1) (by rw [set_app]; rfl) ?_)
        | (refine WpOps.p1 rfl rfl rfl (.lookupV rfl rfl rfl (app_get (j := 3) rfl rfl) rfl rfl hbd2 hsl) ?_)
        | refine WpOps.nil ?_
        | refine WpA.ret ?_
        | refine WpA.skip ?_
      exact parse_fail rfl rfl
  obtain ⟨rfl, hz0⟩ : a3 = true ∧ sc ≠ 0 := by
    cases a3 with
    | false => exact absurd (.inl rfl) hbad
    | true => exact ⟨rfl, fun h => hbad (.inr h)⟩
  have hz : (sc == 0) = false := by simpa using hz0
  rw [if_neg hbad] at hca
  have hlb := cut_len a2 [47]
  have hFb : ∀ L : List AObj, L[2]? = some (strB a2) → CallsA E 77 [.str [47], .ptr H.length 2 0] (H ++ L) (fun e H' => H' = H ++ L.set 2 (strB (Lib.cut a2 [47]).2.1) ∧ e = .ret (.tup [.str (Lib.cut a2 [47]).1, .bool (Lib.cut a2 [47]).2.2])) := fun L h => hF L a2 [47] h (Nat.le_trans hla.2 hs)
  generalize Lib.cut a2 [47] = b at *
  obtain ⟨b1, b2, b3⟩ := b
  have hlc := cut_len b1 [58]
  have hC := fun X => cut_A b1 [58] X (by have := hla.2; have := hlb.1; dsimp only at *; omega)
  unfold cutAV at hC
  dsimp only at hca
  generalize Lib.cut b1 [58] = c at *
  obtain ⟨c1, c2, c3⟩ := c
  dsimp only at hla hlb hlc
  repeat' first
    | refine WpA.condF (congrArg AV.bool hd) ?_
    | refine WpA.condF (congrArg AV.bool hz) ?_
    | refine WpA.seq ?_
    | refine WpA.region ?_
    | refine WpOps.op _ rfl rfl rfl rfl rfl ?_
    | refine WpOps.alloc _ rfl rfl rfl rfl rfl rfl ?_
    | refine WpOps.store rfl rfl rfl rfl rfl rfl rfl rfl rfl rfl ?_
    | (refine WpOps.call rfl rfl rfl rfl rfl (by exact hC _) ?_; rintro _ _ ⟨rfl, rfl⟩)
    | (refine WpOps.call rfl rfl rfl rfl rfl (by exact hFa _ rfl) ?_; rintro _ _ ⟨rfl, rfl⟩)
    | (refine WpOps.call rfl rfl rfl rfl rfl (by exact hFb _ rfl) ?_; rintro _ _ ⟨rfl, rfl⟩)
    | (refine WpOps.p1 rfl rfl rfl (.makeMap rfl) ?_)
    | (refine WpOps.u1h (H ++ [.cells zeroC, .cells zeroC, strB a2, .map [(.str [114, 115, 121, 110, 99], .int .u8 1, 0)] 1]) rfl rfl (.mapUpdate (.inr rfl) rfl rfl (app_get (j := 3) rfl rfl) rfl rfl rfl hbd0) (by rw [set_app]; rfl) ?_)
    | (refine WpOps.u1h (H ++ [.cells zeroC, .cells zeroC, strB a2, .map schMap 2]) rfl rfl (.mapUpdate (.inr rfl) rfl rfl (app_get (j := 3) rfl rfl) rfl rfl rfl hbd1) (by rw [set_app]; rfl) ?_)
    | (refine WpOps.p1 rfl rfl rfl (.lookupV rfl rfl rfl (app_get (j := 3) rfl rfl) rfl rfl hbd2 hsl) ?_)
    | refine WpOps.nil ?_
    | refine WpA.skip ?_
  show WpA E none 115 (Code.cond _ _ _) (thenK (WpA E none 115 _ _) _) _ _
  have hc2 : c2.length ≤ 1000000 := by omega
  cases hp : portP (c1, c2, c3) with
  | none =>
    have he : parseE s = (Loc.zero, 12) := by rw [parseE, hca, hp]; rfl
    rw [he]
    cases c3 with
    | false => simp [portP] at hp
    | true =>
      rw [portP, if_pos rfl] at hp
      rcases hat : Lib.atoiAll c2 with n | _ | _
      · have hn : n < 1 := by
          rw [hat] at hp
          dsimp only at hp
          split at hp
          · assumption
          · cases hp
        have hdn : decide (n < 1) = true := decide_eq_true hn
        repeat' first
          | refine WpA.condT (congrArg AV.bool hdn) ?_
          | refine WpA.seq ?_
          | refine WpA.region ?_
          | refine WpOps.op _ rfl rfl rfl rfl rfl ?_
          | refine WpOps.store rfl rfl rfl rfl rfl rfl rfl rfl rfl rfl ?_
          | refine WpOps.build _ rfl rfl rfl rfl rfl ?_
          | (refine WpOps.call rfl rfl rfl rfl rfl (by exact atoi_ok_A c2 n _ hc2 hat) ?_; rintro _ _ ⟨rfl, rfl⟩)
          | (refine WpOps.p1 rfl rfl rfl (.ifaceNil true rfl rfl rfl rfl) ?_)
          | refine WpOps.nil ?_
          | refine WpA.ret ?_
          | refine WpA.condT rfl ?_
        exact parse_fail rfl rfl
      · repeat' first
          | refine WpA.seq ?_
          | refine WpA.region ?_
          | refine WpOps.op _ rfl rfl rfl rfl rfl ?_
          | refine WpOps.box _ rfl rfl rfl rfl rfl ?_
          | refine WpOps.alloc _ rfl rfl rfl rfl rfl rfl ?_
          | refine WpOps.store rfl rfl rfl rfl rfl rfl rfl rfl rfl rfl ?_
          | refine WpOps.skip rfl rfl rfl ?_
          | refine WpOps.build _ rfl rfl rfl rfl rfl ?_
          | refine WpOps.sh _ rfl rfl rfl rfl rfl ?_
          | (refine WpOps.call rfl rfl rfl rfl rfl (by exact atoi_syntax_A c2 _ hc2 hat) ?_; rintro _ _ ⟨rfl, rfl⟩)
          | (refine WpOps.p1 rfl rfl rfl (.ifaceNil true rfl rfl rfl rfl) ?_)
          | refine WpOps.gsplit _ rfl rfl rfl (fun h => ?_) (fun h => ?_)
          | refine WpA.block ?_
          | refine WpA.exit ?_
          | refine WpOps.nil ?_
          | refine WpA.ret ?_
          | refine WpA.skip ?_
          | refine WpA.condT rfl ?_
          | refine WpA.condF rfl ?_
          | refine WpA.cond _ rfl (fun h => ?_) (fun h => ?_)
          | refine WpA.draw (by kernel_rfl) ?_
          | refine LexA.op _ rfl rfl rfl rfl rfl ?_
          | refine LexA.skip rfl rfl rfl ?_
          | refine LexA.build _ rfl rfl rfl rfl rfl ?_
          | refine LexA.sh _ rfl rfl rfl rfl rfl ?_
          | refine LexA.call rfl rfl rfl rfl rfl (by exact atoi_syntax_A c2 _ hc2 hat) ?_
          | refine LexA.gsplit _ rfl rfl rfl (fun h => ?_) (fun h => ?_)
          | refine LexA.nil ?_
        exact parse_fail rfl rfl
      · repeat' first
          | refine WpA.seq ?_
          | refine WpA.region ?_
          | refine WpOps.op _ rfl rfl rfl rfl rfl ?_
          | refine WpOps.box _ rfl rfl rfl rfl rfl ?_
          | refine WpOps.alloc _ rfl rfl rfl rfl rfl rfl ?_
          | refine WpOps.store rfl rfl rfl rfl rfl rfl rfl rfl rfl rfl ?_
          | refine WpOps.skip rfl rfl rfl ?_
          | refine WpOps.build _ rfl rfl rfl rfl rfl ?_
          | refine WpOps.sh _ rfl rfl rfl rfl rfl ?_
          | (refine WpOps.call rfl rfl rfl rfl rfl (by exact atoi_range_A c2 _ hc2 hat) ?_; rintro _ _ ⟨rfl, rfl⟩)
          | (refine WpOps.p1 rfl rfl rfl (.ifaceNil true rfl rfl rfl rfl) ?_)
          | refine WpOps.gsplit _ rfl rfl rfl (fun h => ?_) (fun h => ?_)
          | refine WpA.block ?_
          | refine WpA.exit ?_
          | refine WpOps.nil ?_
          | refine WpA.ret ?_
          | refine WpA.skip ?_
          | refine WpA.condT rfl ?_
          | refine WpA.condF rfl ?_
          | refine WpA.cond _ rfl (fun h => ?_) (fun h => ?_)
          | refine WpA.draw (by kernel_rfl) ?_
          | refine LexA.op _ rfl rfl rfl rfl rfl ?_
          | refine LexA.skip rfl rfl rfl ?_
          | refine LexA.build _ rfl rfl rfl rfl rfl ?_
          | refine LexA.sh _ rfl rfl rfl rfl rfl ?_
          | refine LexA.call rfl rfl rfl rfl rfl (by exact atoi_range_A c2 _ hc2 hat) ?_
          | refine LexA.gsplit _ rfl rfl rfl (fun h => ?_) (fun h => ?_)
          | refine LexA.nil ?_
        exact parse_fail rfl rfl
  | some n =>
    have hn0 : -9223372036854775808 ≤ n ∧ n ≤ 9223372036854775807 := by
      cases c3 with
      | false => injection hp with hp; omega
      | true =>
        rw [portP, if_pos rfl] at hp
        dsimp only at hp
        split at hp
        · rename_i m hat
          split at hp
          · cases hp
          · rename_i h1
            injection hp with hp
            have := atoi_le hat h1
            omega
        · cases hp
    have hcand : candP s = some ⟨sc, c1, n, (lpF 11 b2 [] false).1, (lpF 11 b2 [] false).2 || decide ((lpF 11 b2 [] false).1 = [])⟩ := by
      rw [hca, hp]; rfl
    refine WpA.joinS [(0, .str s), (2, .ptr H.length 0 0), (4, .ptr H.length 1 0), (5, .ptr H.length 2 0), (6, .func 77 [.ptr H.length 2 0])]
      (H ++ [.cells zeroC, .cells [.int .u8 sc, .str c1, .int .i64 n, .sl .full 0 [], .bool false], strB b2, .map schMap 2]) ?_ ?_
    · cases c3 with
      | false =>
        injection hp with hp
        subst hp
        repeat' first
          | refine WpA.skip ?_
          | refine WpA.condF rfl ?_
        exact ⟨⟨rfl, rfl, rfl, rfl, rfl, trivial⟩, rfl⟩
      | true =>
        rw [portP, if_pos rfl] at hp
        rcases hat : Lib.atoiAll c2 with m | _ | _
        · rw [hat] at hp
          dsimp only at hp
          by_cases h1 : m < 1
          · rw [if_pos h1] at hp; cases hp
          · rw [if_neg h1] at hp
            injection hp with hp
            subst hp
            have hdn : decide (m < 1) = false := decide_eq_false h1
            repeat' first
              | refine WpA.condF (congrArg AV.bool hdn) ?_
              | refine WpA.seq ?_
              | refine WpA.region ?_
              | refine WpOps.op _ rfl rfl rfl rfl rfl ?_
              | refine WpOps.store rfl rfl rfl rfl rfl rfl rfl rfl rfl rfl ?_
              | (refine WpOps.call rfl rfl rfl rfl rfl (by exact atoi_ok_A c2 m _ hc2 hat) ?_; rintro _ _ ⟨rfl, rfl⟩)
              | (refine WpOps.p1 rfl rfl rfl (.ifaceNil true rfl rfl rfl rfl) ?_)
              | refine WpOps.nil ?_
              | refine WpA.skip ?_
              | refine WpA.condT rfl ?_
            exact ⟨⟨rfl, rfl, rfl, rfl, rfl, trivial⟩, rfl⟩
        · rw [hat] at hp; cases hp
        · rw [hat] at hp; cases hp
    · obtain ⟨ps, dd, hR⟩ : ∃ ps dd, lpF 11 b2 [] false = (ps, dd) := ⟨_, _, rfl⟩
      rw [hR] at hcand
      dsimp only at hcand
      clear hca hbad hFa hFb hC hsl hbd0 hbd1 hbd2 hp
      refine WpA.adoptC (j := 1) (q := 3) 1 rfl rfl ?_
      refine WpA.seq ?_
      refine WpA.block ?_
      refine WpA.loopA (α := List UInt8 × List (List UInt8) × Bool) (fun _ => [(0, .str s), (2, .ptr H.length 0 0), (4, .ptr H.length 1 0), (5, .ptr H.length 2 0), (6, .func 77 [.ptr H.length 2 0])])
        (fun a => H ++ [.cells zeroC, .cells [.int .u8 sc, .str c1, .int .i64 n, .sl (.row H.length 4) 1 (strRows a.2.1), .bool a.2.2], strB a.1, .map schMap 2, .tail (strRows a.2.1).length 1])
        (fun a => a.1.length ≤ 200 ∧ a.2.1.length ≤ 11 ∧ lpF (11 - a.2.1.length) a.1 a.2.1 a.2.2 = (ps, dd) ∧ ∀ p ∈ a.2.1, p.length ≤ 200) (fun a => 11 - a.2.1.length) (b2, [], false)
        ⟨by dsimp only; omega, by simp, hR, by simp⟩ ⟨rfl, rfl, rfl, rfl, rfl, trivial⟩ rfl (fun _ _ => by simp) (fun a a' _ _ => ?_) (fun a a' _ => ?_) (fun _ => ⟨rfl, rfl, rfl, rfl, rfl, trivial⟩) (fun a ha => ?_)
      · refine TrOk.app fun j x hj => ?_
        rcases j with _ | _ | _ | _ | _ | j
        · exact .inl hj
        · injection hj with hj; subst hj; exact .inr (obd_cells (by
            intro x hx
            simp only [List.mem_cons, List.not_mem_nil, or_false] at hx
            rcases hx with rfl | rfl | rfl | rfl | rfl
            · exact .int
            · exact .str
            · exact .int
            · refine .sl (fun _ _ e => by cases e; simp) fun x hx e he => ?_
              obtain ⟨q, _, rfl⟩ := List.mem_map.1 hx
              have := List.mem_singleton.1 he
              subst this
              exact .str
            · exact .bool))
        · injection hj with hj; subst hj; exact .inr (obd_cells (by intro x hx; have := List.mem_singleton.1 hx; subst this; exact .str))
        · exact .inl hj
        · injection hj with hj; subst hj; exact .inr obd_tail
        · cases hj
      · exact ⟨.str, .ptr (by simp), .ptr (by simp), .ptr (by simp), .func (by intro x hx; have := List.mem_singleton.1 hx; subst this; exact .ptr (by simp)), trivial⟩
      obtain ⟨r, qs, d⟩ := a
      obtain ⟨hr1, hr2, hr3, hr4⟩ := ha
      dsimp only at hr1 hr2 hr3 hr4
      by_cases hgo : r ≠ [] ∧ qs.length ≤ 10
      · obtain ⟨k, hk⟩ : ∃ k, 11 - qs.length = k + 1 := ⟨10 - qs.length, by omega⟩
        rw [hk, lpF, if_neg hgo.1] at hr3
        have hg1 : ¬ ((!(r == [])) = false) := by simp [hgo.1]
        have hlx := cut_len r [47]
        have hg2 : decide ((((strRows qs).length : Nat) : Int) ≤ 10) = true := decide_eq_true (by rw [strRows_len]; omega)
        have hFr : ∀ L : List AObj, L[2]? = some (strB r) → CallsA E 77 [.str [47], .ptr H.length 2 0] (H ++ L) (fun e H' => H' = H ++ L.set 2 (strB (Lib.cut r [47]).2.1) ∧ e = .ret (.tup [.str (Lib.cut r [47]).1, .bool (Lib.cut r [47]).2.2])) := fun L h => hF L r [47] h (by omega)
        generalize Lib.cut r [47] = x at *
        obtain ⟨x1, x2, x3⟩ := x
        dsimp only at hlx hr3
        have hsr : strRows (qs ++ [x1]) = strRows qs ++ [[.str x1]] := by rw [strRows, List.map_append]; rfl
        repeat' first
          | exact absurd (by assumption) hg1
          | refine WpA.condT (congrArg AV.bool hg2) ?_
          | refine WpA.seq ?_
          | refine WpA.region ?_
          | refine WpOps.op _ rfl rfl rfl rfl rfl ?_
          | refine WpOps.store rfl rfl rfl rfl rfl rfl rfl rfl rfl rfl ?_
          | refine WpOps.skip rfl rfl rfl ?_
          | (refine WpOps.call rfl rfl rfl rfl rfl (by exact hFr _ rfl) ?_; rintro _ _ ⟨rfl, rfl⟩)
          | (refine WpOps.buildSlice _ rfl rfl rfl rfl rfl rfl rfl rfl rfl rfl rfl ?_)
          | (refine WpOps.appR rfl rfl rfl rfl rfl rfl rfl (fun k h => by cases h) rfl rfl rfl rfl rfl rfl (by intro y hy a ha; have := List.mem_singleton.1 hy; subst this; have := List.mem_singleton.1 ha; subst this; rfl) (by rw [strRows_len]; show (qs.length + 1) * _ ≤ _; show (qs.length + 1) * 16 ≤ _; omega) ?_)
          | refine WpOps.gsplit _ rfl rfl rfl (fun h => ?_) (fun h => ?_)
          | refine WpA.block ?_
          | refine WpOps.nil ?_
          | refine WpA.skip ?_
        all_goals
          have hkk : 11 - (qs ++ [x1]).length = k := by simp; omega
          have hbn : (x2 == []) = decide (x2 = []) := by cases x2 <;> rfl
          have hpl : ∀ p ∈ qs ++ [x1], p.length ≤ 200 := fun p hp => by
            rcases List.mem_append.1 hp with hp | hp
            · exact hr4 p hp
            · have := List.mem_singleton.1 hp; subst this; omega
        · have hx3 := h
          subst hx3
          refine ⟨(x2, qs ++ [x1], (x2 == [])), ⟨by dsimp only; omega, by dsimp only; simp; omega, ?_, hpl⟩, by dsimp only; simp; omega, ⟨rfl, rfl, rfl, rfl, rfl, trivial⟩, [], ?_⟩
          · dsimp only
            rw [hkk, hbn, ← hr3, Bool.true_and]
          · dsimp only
            rw [hsr]
            exact (List.append_nil _).symm
        · have hx3 := h
          subst hx3
          refine ⟨(x2, qs ++ [x1], false), ⟨by dsimp only; omega, by dsimp only; simp; omega, ?_, hpl⟩, by dsimp only; simp; omega, ⟨rfl, rfl, rfl, rfl, rfl, trivial⟩, [], ?_⟩
          · dsimp only
            rw [hkk, ← hr3, Bool.false_and]
          · dsimp only
            rw [hsr]
            exact (List.append_nil _).symm
      · have hps : qs = ps ∧ d = dd := by
          by_cases h0 : r = []
          · rw [h0, lpF_nil] at hr3
            injection hr3 with e1 e2
            exact ⟨e1, e2⟩
          · have : 11 - qs.length = 0 := by
              have hh : ¬ qs.length ≤ 10 := fun h => hgo ⟨h0, h⟩
              omega
            rw [this] at hr3
            injection hr3 with e1 e2
            exact ⟨e1, e2⟩
        obtain ⟨rfl, rfl⟩ := hps
        refine WpA.seq ?_
        refine WpA.cutS [(0, .str s), (2, .ptr H.length 0 0), (4, .ptr H.length 1 0), (77, .bool false)] (H ++ [.cells zeroC, .cells [.int .u8 sc, .str c1, .int .i64 n, .sl (.row H.length 4) 1 (strRows qs), .bool d], strB r, .map schMap 2, .tail (strRows qs).length 1]) ?_ ?_
        · by_cases h0 : r = []
          · have hg1 : ¬ ((!(r == [])) = true) := by simp [h0]
            repeat' first
              | exact absurd (by assumption) hg1
              | refine WpA.region ?_
              | refine WpOps.op _ rfl rfl rfl rfl rfl ?_
              | refine WpOps.skip rfl rfl rfl ?_
              | refine WpOps.gsplit _ rfl rfl rfl (fun h => ?_) (fun h => ?_)
              | refine WpOps.nil ?_
            exact ⟨rfl, ⟨rfl, rfl, rfl, rfl, trivial⟩, rfl⟩
          · have hg1 : ¬ ((!(r == [])) = false) := by simp [h0]
            have hg2 : decide ((((strRows qs).length : Nat) : Int) ≤ 10) = false := decide_eq_false (by rw [strRows_len]; have hh : ¬ qs.length ≤ 10 := fun h => hgo ⟨h0, h⟩; omega)
            repeat' first
              | exact absurd (by assumption) hg1
              | refine WpA.region ?_
              | refine WpOps.op _ rfl rfl rfl rfl rfl ?_
              | refine WpOps.gsplit _ rfl rfl rfl (fun h => ?_) (fun h => ?_)
              | refine WpOps.nil ?_
            exact ⟨rfl, ⟨rfl, rfl, rfl, congrArg AV.bool hg2, trivial⟩, rfl⟩
        refine WpA.condF rfl ?_
        refine WpA.exit ?_
        obtain ⟨dF, hdF⟩ : ∃ dF, (d || decide (qs = [])) = dF := ⟨_, rfl⟩
        rw [hdF] at hcand
        refine WpA.cutS [(0, .str s), (2, .ptr H.length 0 0), (4, .ptr H.length 1 0)] (H ++ [.cells zeroC, .cells [.int .u8 sc, .str c1, .int .i64 n, .sl (.row H.length 4) 1 (strRows qs), .bool dF], strB r, .map schMap 2, .tail (strRows qs).length 1]) ?_ ?_
        · cases d with
          | true =>
            rw [Bool.true_or] at hdF
            subst hdF
            repeat' first
              | refine WpA.region ?_
              | refine WpOps.op _ rfl rfl rfl rfl rfl ?_
              | refine WpOps.store rfl rfl rfl rfl rfl rfl rfl rfl rfl rfl ?_
              | refine WpOps.skip rfl rfl rfl ?_
              | refine WpOps.nil ?_
            exact ⟨rfl, ⟨rfl, rfl, rfl, trivial⟩, rfl⟩
          | false =>
            have e0 : ((((strRows qs).length : Nat) : Int) == 0) = dF := by rw [← hdF, Bool.false_or, strRows_len]; cases qs <;> simp; omega
            rw [← e0]
            repeat' first
              | refine WpA.region ?_
              | refine WpOps.op _ rfl rfl rfl rfl rfl ?_
              | refine WpOps.store rfl rfl rfl rfl rfl rfl rfl rfl rfl rfl ?_
              | refine WpOps.nil ?_
            exact ⟨rfl, ⟨rfl, rfl, rfl, trivial⟩, rfl⟩
        have hsm : LocSm ⟨sc, c1, n, qs, dF⟩ := ⟨by dsimp only; omega, hn0.1, hn0.2, by dsimp only; omega, by have := join_bound qs hr4; dsimp only; omega⟩
        have hsub : SubL [.agg [.int .u8 sc, .str c1, .int .i64 n, .sl (.row H.length 4) 1 (strRows qs), .bool dF]] [.agg (Loc.cells ⟨sc, c1, n, qs, dF⟩)] := ⟨Sub.agg (vs := [.int .u8 sc, .str c1, .int .i64 n, .sl .no 1 (strRows qs), .bool dF]) ⟨Sub.refl _, Sub.refl _, Sub.refl _, Sub.untag, Sub.refl _, trivial⟩, trivial⟩
        have hCk := fun X => (Check_A ⟨sc, c1, n, qs, dF⟩ X hsm).subL hsub
        have hWr := fun X => (write_A ⟨sc, c1, n, qs, dF⟩ X hsm).subL hsub
        have hfin : parseE s = if chkE ⟨sc, c1, n, qs, dF⟩ = 0 ∧ wr ⟨sc, c1, n, qs, dF⟩ = s then (⟨sc, c1, n, qs, dF⟩, 0) else (Loc.zero, 12) := by rw [parseE, hcand]; rfl
        generalize chkE ⟨sc, c1, n, qs, dF⟩ = ck at *
        generalize wr ⟨sc, c1, n, qs, dF⟩ = ws at *
        rw [hfin]
        clear hfin hcand
        repeat' first
          | refine WpA.seq ?_
          | refine WpA.region ?_
          | refine WpOps.op _ rfl rfl rfl rfl rfl ?_
          | refine WpOps.store rfl rfl rfl rfl rfl rfl rfl rfl rfl rfl ?_
          | refine WpOps.skip rfl rfl rfl ?_
          | refine WpOps.build _ rfl rfl rfl rfl rfl ?_
          | (refine WpOps.call rfl rfl rfl rfl rfl (by exact hCk _) ?_; rintro _ _ ⟨rfl, rfl⟩)
          | (refine WpOps.call rfl rfl rfl rfl rfl (by exact hWr _) ?_; rintro _ _ ⟨rfl, rfl⟩)
          | refine WpOps.gsplit _ rfl rfl rfl (fun h => ?_) (fun h => ?_)
          | refine WpOps.nil ?_
          | refine WpA.ret ?_
          | refine WpA.skip ?_
          | refine WpA.condT rfl ?_
          | refine WpA.cond _ rfl (fun h => ?_) (fun h => ?_)
        all_goals clear hCk hWr hF
        all_goals first
          | (have hne : ¬ (ck = 0 ∧ ws = s) := by simp_all
             rw [if_neg hne]
             exact parse_fail rfl rfl)
          | (have hok : ck = 0 ∧ ws = s := by simp_all
             rw [if_pos hok]
             exact retK.sub (.inr rfl) rfl (TrOk.refl H) (L := _) rfl rfl (Sub.tup (vs := [.agg (Loc.cells ⟨sc, c1, n, qs, dF⟩), .int .i64 0]) ⟨hsub.1, Sub.refl _, trivial⟩) (loc_bd _ ⟨sc, c1, n, qs, dF⟩ 0) ⟨rfl, rfl⟩)
end Go.Gp.Tryz

/- The reference's hosts: the walk. -/
namespace Go.Gp.Tryz
variable [Inhabited MaxLenT]
open Go.Proofs
set_option linter.unusedVariables false
set_option linter.unusedSimpArgs false
set_option linter.unusedSectionVars false
set_option maxHeartbeats 4000000

def firstB (s : List UInt8) (i : Nat) : Bool := match i with | 0 => true | k + 1 => s[k]? == some 46
theorem okF_step {s : List UInt8} {i : Nat} (h : i < s.length) : okF (firstB s i) (s.drop i) = (okc (firstB s i) (lastOf (s.drop (i + 1))) s[i] && okF (firstB s (i + 1)) (s.drop (i + 1))) := by
  rw [List.drop_eq_getElem_cons h, okF]
  have : firstB s (i + 1) = (s[i] == 46) := by
    show (s[i]? == some 46) = _
    rw [List.getElem?_eq_getElem h]; rfl
  rw [this]
theorem okF_end {s : List UInt8} {i : Nat} {f : Bool} (h : s.length ≤ i) : okF f (s.drop i) = true := by
  rw [List.drop_eq_nil_of_le h]; rfl
theorem ne_u8 (x y : UInt8) : (((x.toNat : Nat) : Int) == ((y.toNat : Nat) : Int)) = (x == y) := by
  by_cases h : x = y
  · subst h; rw [beq_self_eq_true, beq_self_eq_true]
  · have : ¬ ((x.toNat : Nat) : Int) = ((y.toNat : Nat) : Int) := fun e => h (UInt8.toNat_inj.1 (by omega))
    rw [beq_false_of_ne this, beq_false_of_ne h]
theorem okc_ref (f l : Bool) (c : UInt8) : okc f l c = !((!(refLetter c) && (((c.toNat : Nat) : Int) != 45) && (((c.toNat : Nat) : Int) != 46)) || ((((c.toNat : Nat) : Int) == 46) && (f || l)) || ((((c.toNat : Nat) : Int) == 45) && (f || l))) := by
  have h1 : lowMinus c = (refLetter c || c.toNat == 45) := rfl
  have h2 : (c == 46) = (((c.toNat : Nat) : Int) == 46) := (ne_u8 c 46).symm
  have h3 : (c == 45) = (((c.toNat : Nat) : Int) == 45) := (ne_u8 c 45).symm
  have h4 : (c.toNat == 45) = (((c.toNat : Nat) : Int) == 45) := by rw [Bool.eq_iff_iff]; simp; omega
  unfold okc
  rw [h1, h4, h2, h3, bne, bne]
  generalize refLetter c = p
  have hx : ¬ ((((c.toNat : Nat) : Int) == 45) = true ∧ (((c.toNat : Nat) : Int) == 46) = true) := by simp; omega
  generalize (((c.toNat : Nat) : Int) == 45) = q at *
  generalize (((c.toNat : Nat) : Int) == 46) = r at *
  cases p <;> cases q <;> cases r <;> cases f <;> cases l <;> simp_all
theorem refHost_A (s : List UInt8) (H : List AObj) (hs : s.length ≤ 1000000) : CallsA E 113 [.str s] H (Is H (.bool (hostOk s))) := by
  refine .enter Tryz.func113 rfl rfl rfl 76 Tryz.ntmps113 (Nat.le_of_ble_eq_true rfl) ?_
  by_cases hl : 1 ≤ s.length ∧ s.length ≤ 60
  · have d1 : decide (((s.length : Nat) : Int) < 1) = false := decide_eq_false (by omega)
    have d2 : decide (((s.length : Nat) : Int) > 60) = false := decide_eq_false (by omega)
    have hR : hostOk s = okF (firstB s 0) (s.drop 0) := by
      rw [hostOk_F, decide_eq_true hl.1, decide_eq_true hl.2]; rfl
    generalize hostOk s = R at *
    repeat' first
      | (exact absurd ‹_ = true› (by rw [d1]; decide))
      | (exact absurd ‹_ = true› (by rw [d2]; decide))
      | refine WpA.seq ?_
      | refine WpA.region ?_
      | refine WpOps.op _ rfl rfl rfl rfl rfl ?_
      | refine WpOps.gsplit _ rfl rfl rfl (fun h => ?_) (fun h => ?_)
      | refine WpA.block ?_
      | refine WpOps.nil ?_
      | refine WpA.skip ?_
      | refine WpA.cond _ rfl (fun h => ?_) (fun h => ?_)
    refine WpA.loopS (α := Nat) (fun i => [(0, .str s), (3, .int .i64 (i : Nat))]) (fun _ => H ++ []) (fun i => i ≤ s.length ∧ R = okF (firstB s i) (s.drop i)) (fun i => s.length - i) 0 ⟨Nat.zero_le _, hR⟩ ⟨rfl, rfl, trivial⟩ rfl (fun i hi => ?_)
    obtain ⟨hi1, hi2⟩ := hi
    by_cases hlt : i < s.length
    · have hd : decide (((i : Nat) : Int) < ((s.length : Nat) : Int)) = true := decide_eq_true (by omega)
      rw [okF_step hlt] at hi2
      have hlet := fun X => letter_A s[i] X
      have hok := okc_ref (firstB s i) (lastOf (s.drop (i + 1))) s[i]
      have hi0 : okc (firstB s i) (lastOf (s.drop (i + 1))) s[i] = false → R = false := fun h => by rw [hi2, h]; rfl
      have hi3 : okc (firstB s i) (lastOf (s.drop (i + 1))) s[i] = true → R = okF (firstB s (i + 1)) (s.drop (i + 1)) := fun h => by rw [hi2, h]; rfl
      clear hi2 hR
      have hfb : 0 < i → ∃ b, s[i - 1]? = some b ∧ (((b.toNat : Nat) : Int) == 46) = firstB s i := fun h0 => by
        obtain ⟨k, rfl⟩ : ∃ k, i = k + 1 := ⟨i - 1, by omega⟩
        refine ⟨s[k]'(by omega), by simp, ?_⟩
        show _ = (s[k]? == some 46)
        rw [List.getElem?_eq_getElem (by omega)]
        exact ne_u8 _ 46
      have hlb : i + 1 < s.length → ∃ b, s[i + 1]? = some b ∧ (((b.toNat : Nat) : Int) == 46) = lastOf (s.drop (i + 1)) := fun h0 => by
        refine ⟨s[i + 1], List.getElem?_eq_getElem h0, ?_⟩
        rw [List.drop_eq_getElem_cons h0]
        exact ne_u8 _ 46
      have hf0 : i = 0 → firstB s i = true := fun e => by rw [e]; rfl
      have hl0 : i + 1 = s.length → lastOf (s.drop (i + 1)) = true := fun e => by rw [List.drop_eq_nil_of_le (by omega)]; rfl
      generalize firstB s i = F at *
      generalize lastOf (s.drop (i + 1)) = La at *
      have hci : s[i]? = some s[i] := List.getElem?_eq_getElem hlt
      generalize s[i] = c at *
      repeat refine WpA.seq ?_
      refine WpA.region ?_
      refine WpOps.op _ rfl rfl rfl rfl rfl ?_
      refine WpOps.op _ rfl rfl rfl rfl rfl ?_
      refine WpOps.op _ rfl rfl rfl rfl rfl ?_
      refine WpOps.op _ rfl rfl rfl rfl rfl ?_
      refine WpOps.nil ?_
      repeat refine WpA.seq ?_
      refine WpA.condT (congrArg AV.bool hd) ?_
      refine WpA.skip ?_
      repeat refine WpA.seq ?_
      refine WpA.block ?_
      refine WpA.cutS [(0, .str s), (3, .int .i64 (i : Nat)), (4, u8 c)] (H ++ []) ?_ ?_
      · repeat' first
          | (refine WpOps.indexS c rfl rfl rfl rfl rfl rfl rfl (Int.natCast_nonneg i) (by simpa using hci) ?_)
          | refine WpA.region ?_
          | refine WpOps.op _ rfl rfl rfl rfl rfl ?_
          | refine WpOps.nil ?_
        exact ⟨rfl, ⟨rfl, rfl, rfl, trivial⟩, rfl⟩
      refine WpA.cutS [(0, .str s), (3, .int .i64 (i : Nat)), (4, u8 c), (5, .bool F)] (H ++ []) ?_ ?_
      · by_cases h0 : i = 0
        · have hd0 : (((i : Nat) : Int) == 0) = true := by simp [h0]
          rw [hf0 h0]
          repeat' first
            | (exact absurd ‹_ = false› (by rw [hd0]; decide))
            | refine WpA.region ?_
            | refine WpOps.op _ rfl rfl rfl rfl rfl ?_
            | refine WpOps.skip rfl rfl rfl ?_
            | refine WpOps.gsplit _ rfl rfl rfl (fun h => ?_) (fun h => ?_)
            | refine WpOps.nil ?_
          exact ⟨rfl, ⟨rfl, rfl, rfl, rfl, trivial⟩, rfl⟩
        · have hd0 : (((i : Nat) : Int) == 0) = false := by simp [h0]
          obtain ⟨b, hb1, hb2⟩ := hfb (by omega)
          have hw : IntKind.i64.wrap (((i : Nat) : Int) - 1) = ((i - 1 : Nat) : Int) := by rw [wrap64 (by omega) (by omega)]; omega
          repeat' first
            | (exact absurd ‹_ = true› (by rw [hd0]; decide))
            | (refine WpOps.indexS b rfl rfl rfl rfl rfl rfl rfl (by rw [hw]; exact Int.natCast_nonneg _) (by rw [hw]; simpa using hb1) ?_)
            | refine WpA.region ?_
            | refine WpOps.op _ rfl rfl rfl rfl rfl ?_
            | refine WpOps.gsplit _ rfl rfl rfl (fun h => ?_) (fun h => ?_)
            | refine WpOps.nil ?_
          exact ⟨rfl, ⟨rfl, rfl, rfl, congrArg AV.bool hb2, trivial⟩, rfl⟩
      refine WpA.cutS [(0, .str s), (3, .int .i64 (i : Nat)), (4, u8 c), (5, .bool F), (6, .bool La)] (H ++ []) ?_ ?_
      · have hw1 : IntKind.i64.wrap (((s.length : Nat) : Int) - 1) = ((s.length - 1 : Nat) : Int) := by rw [wrap64 (by omega) (by omega)]; omega
        by_cases h0 : i + 1 = s.length
        · have hd0 : (((i : Nat) : Int) == IntKind.i64.wrap (((s.length : Nat) : Int) - 1)) = true := by rw [hw1]; simp; omega
          rw [hl0 h0]
          repeat' first
            | (exact absurd ‹_ = false› (by rw [hd0]; decide))
            | refine WpA.region ?_
            | refine WpOps.op _ rfl rfl rfl rfl rfl ?_
            | refine WpOps.skip rfl rfl rfl ?_
            | refine WpOps.gsplit _ rfl rfl rfl (fun h => ?_) (fun h => ?_)
            | refine WpOps.nil ?_
          exact ⟨rfl, ⟨rfl, rfl, rfl, rfl, rfl, trivial⟩, rfl⟩
        · have hd0 : (((i : Nat) : Int) == IntKind.i64.wrap (((s.length : Nat) : Int) - 1)) = false := by rw [hw1]; simp; omega
          obtain ⟨b, hb1, hb2⟩ := hlb (by omega)
          have hw : IntKind.i64.wrap (((i : Nat) : Int) + 1) = ((i + 1 : Nat) : Int) := by rw [wrap64 (by omega) (by omega)]; omega
          repeat' first
            | (exact absurd ‹_ = true› (by rw [hd0]; decide))
            | (refine WpOps.indexS b rfl rfl rfl rfl rfl rfl rfl (by rw [hw]; exact Int.natCast_nonneg _) (by rw [hw]; simpa using hb1) ?_)
            | refine WpA.region ?_
            | refine WpOps.op _ rfl rfl rfl rfl rfl ?_
            | refine WpOps.gsplit _ rfl rfl rfl (fun h => ?_) (fun h => ?_)
            | refine WpOps.nil ?_
          exact ⟨rfl, ⟨rfl, rfl, rfl, rfl, congrArg AV.bool hb2, trivial⟩, rfl⟩
      clear hfb hlb hf0 hl0 hci
      generalize refLetter c = lc at *
      repeat' first
        | refine WpA.seq ?_
        | refine WpA.region ?_
        | refine WpOps.op _ rfl rfl rfl rfl rfl ?_
        | refine WpOps.skip rfl rfl rfl ?_
        | (refine WpOps.call rfl rfl rfl rfl rfl (by exact hlet _) ?_; rintro _ _ ⟨rfl, rfl⟩)
        | refine WpOps.gsplit _ rfl rfl rfl (fun h => ?_) (fun h => ?_)
        | refine WpOps.nil ?_
        | refine WpA.ret ?_
        | refine WpA.skip ?_
        | refine WpA.condT rfl ?_
        | refine WpA.condF rfl ?_
        | refine WpA.cond _ rfl (fun h => ?_) (fun h => ?_)
      all_goals first
        | (have hok : okc F La c = false := by
             clear hi0 hi3 hlet
             rw [hok]
             simp_all
           have hRf := hi0 hok
           rw [hRf]
           exact retK.ok rfl rfl rfl .bool)
        | (have hok : okc F La c = true := by
             clear hi0 hi3 hlet
             rw [hok]
             simp_all
           exact ⟨i + 1, ⟨hlt, hi3 hok⟩, by omega, ⟨rfl, congrArg (AV.int .i64) (wrap64 (by omega) (by omega)), trivial⟩, rfl⟩)
    · have hd : decide (((i : Nat) : Int) < ((s.length : Nat) : Int)) = false := decide_eq_false (by omega)
      rw [hi2, okF_end (by omega)]
      repeat' first
        | refine WpA.condF (congrArg AV.bool hd) ?_
        | refine WpA.seq ?_
        | refine WpA.region ?_
        | refine WpOps.op _ rfl rfl rfl rfl rfl ?_
        | refine WpA.exit ?_
        | refine WpOps.nil ?_
        | refine WpA.ret ?_
      exact retK.ok rfl rfl rfl .bool
  · have hR : hostOk s = false := by
      unfold hostOk
      rw [Bool.and_eq_false_iff]
      left
      rw [Bool.and_eq_false_iff]
      rcases Nat.lt_or_ge s.length 1 with h | h
      · left; exact decide_eq_false (by omega)
      · right; exact decide_eq_false (by omega)
    rw [hR]
    repeat' first
      | refine WpA.seq ?_
      | refine WpA.region ?_
      | refine WpOps.op _ rfl rfl rfl rfl rfl ?_
      | refine WpOps.skip rfl rfl rfl ?_
      | refine WpOps.gsplit _ rfl rfl rfl (fun h => ?_) (fun h => ?_)
      | refine WpA.block ?_
      | refine WpOps.nil ?_
      | refine WpA.ret ?_
      | refine WpA.skip ?_
      | refine WpA.condT rfl ?_
      | refine WpA.cond _ rfl (fun h => ?_) (fun h => ?_)
    all_goals first
      | exact retK.ok rfl rfl rfl .bool
      | (exfalso; simp at *; omega)
end Go.Gp.Tryz

/- The reference's locators: Decimal, Write. -/
namespace Go.Gp.Tryz
variable [Inhabited MaxLenT]
open Go.Proofs
set_option linter.unusedVariables false
set_option linter.unusedSimpArgs false
set_option linter.unusedSectionVars false
set_option maxHeartbeats 4000000

theorem decimal_A : ∀ (n : Nat) (H : List AObj), n ≤ 1000000 → CallsA E 116 [.int .i64 (n : Nat)] H (Is H (.str (Lib.decDigits n))) := by
  intro n
  induction n using Nat.strongRecOn with
  | _ n ih =>
    intro H hn
    have hm : ((n : Nat) : Int).tmod 10 = ((n % 10 : Nat) : Int) := by rw [Int.tmod_eq_emod_of_nonneg (by omega)]; omega
    have hq : IntKind.i64.wrap (((n : Nat) : Int).tdiv 10) = ((n / 10 : Nat) : Int) := by rw [Int.tdiv_eq_ediv_of_nonneg (by omega), wrap64 (by omega) (by omega)]; omega
    have hw : IntKind.i64.wrap (48 + ((n : Nat) : Int).tmod 10) = ((48 + n % 10 : Nat) : Int) := by rw [hm, wrap64 (by omega) (by omega)]; omega
    have hrow : ([[AV.int .u8 (IntKind.u8.wrap (IntKind.i64.wrap (48 + ((n : Nat) : Int).tmod 10)))]] : List (List AV)) = [UInt8.ofNat (48 + n % 10)].map byteRow := by rw [hw]; exact row1 _
    refine .enter Tryz.func116 rfl rfl rfl 18 Tryz.ntmps116 (Nat.le_of_ble_eq_true rfl) ?_
    by_cases h10 : n < 10
    · have hd : decide (((n : Nat) : Int) < 10) = true := decide_eq_true (by omega)
      rw [Lib.decDigits_one h10]
      have e : n % 10 = n := by omega
      rw [e] at hrow
      repeat' first
        | refine WpA.condT (congrArg AV.bool hd) ?_
        | refine WpA.seq ?_
        | refine WpA.region ?_
        | refine WpOps.op _ rfl rfl rfl rfl rfl ?_
        | (refine WpOps.quo _ rfl rfl rfl rfl rfl ?_)
        | (refine WpOps.buildSlice _ rfl rfl rfl rfl rfl rfl rfl rfl rfl rfl rfl ?_)
        | (refine WpOps.p1 rfl rfl rfl (.slStr [UInt8.ofNat (48 + n)] rfl rfl rfl rfl rfl hrow) ?_)
        | refine WpOps.nil ?_
        | refine WpA.ret ?_
      exact retK.ok rfl rfl rfl .str
    · have hd : decide (((n : Nat) : Int) < 10) = false := decide_eq_false (by omega)
      rw [Lib.decDigits, dif_neg h10]
      have hI := fun X => ih (n / 10) (by omega) X (by omega)
      rw [← hq] at hI
      have hl : (Lib.decDigits (n / 10)).length ≤ 1000 := by
        have := Lib.nDigits_le20 (n / 10) (by omega)
        rw [Lib.decDigits_length]; omega
      generalize Lib.decDigits (n / 10) = D at *
      repeat' first
        | refine WpA.condF (congrArg AV.bool hd) ?_
        | refine WpA.seq ?_
        | refine WpA.region ?_
        | refine WpOps.op _ rfl rfl rfl rfl rfl ?_
        | (refine WpOps.call rfl rfl rfl rfl rfl (by exact hI _) ?_; rintro _ _ ⟨rfl, rfl⟩)
        | (refine WpOps.quo _ rfl rfl rfl rfl rfl ?_)
        | (refine WpOps.buildSlice _ rfl rfl rfl rfl rfl rfl rfl rfl rfl rfl rfl ?_)
        | (refine WpOps.p1 rfl rfl rfl (.slStr [UInt8.ofNat (48 + n % 10)] rfl rfl rfl rfl rfl hrow) ?_)
        | (refine WpOps.addS rfl rfl rfl rfl rfl rfl (by first | omega | (simp; omega)) ?_)
        | refine WpOps.nil ?_
        | refine WpA.ret ?_
        | refine WpA.skip ?_
      exact retK.ok rfl rfl rfl .str
theorem joinTail_cons (x : List UInt8) (r : List (List UInt8)) : Lib.joinTail [47] (x :: r) = 47 :: Lib.join (x :: r) [47] := by
  rw [Lib.join_cons]; simp [Lib.joinTail]
theorem wr_ref (l : Loc) : wr l = ((if l.sch = 1 then rsyncS ++ markS else httpsS ++ markS) ++ l.host ++ (if l.port = 0 then [] else 58 :: Lib.itoa l.port) ++ Lib.joinTail [47] l.parts ++ (if l.dir = true ∨ l.parts = [] then [47] else [])) := by
  rw [wr_cases]
  cases hp : l.parts with
  | nil => simp [Lib.joinTail, Lib.join_nil]
  | cons x r => rw [joinTail_cons]; simp
theorem joinTail_le (r : List (List UInt8)) (h : (Lib.join r [47]).length ≤ 1000000) : (Lib.joinTail [47] r).length ≤ 1000001 := by
  cases r with
  | nil => simp [Lib.joinTail]
  | cons x r => rw [joinTail_cons, List.length_cons]; omega
theorem strRows_nil (l : List (List UInt8)) : ((((strRows l).length : Nat) : Int) == 0) = decide (l = []) := by
  cases l with
  | nil => rfl
  | cons a l => rw [strRows_len]; simp; omega
theorem refWrite_A (l : Loc) (H : List AObj) (hl : LocSm l) (hp0 : 0 ≤ l.port) (hp1 : l.port ≤ 1000000) : CallsA E 91 [.agg l.cells] H (Is H (.str (wr l))) := by
  have hh := hl.host
  have hpl := hl.parts
  have hj := joinTail_le _ hl.join
  have hI : ∀ X, CallsA E 116 [.int .i64 l.port] X (Is X (.str (Lib.itoa l.port))) := fun X => by
    obtain ⟨n, hn⟩ : ∃ n : Nat, l.port = (n : Nat) := ⟨l.port.toNat, by omega⟩
    rw [hn, itoa_nat]
    exact decimal_A n X (by omega)
  have hil := Lib.itoa_length_le l.port hl.p0 hl.p1
  have hpn := strRows_nil l.parts
  have hw := wr_ref l
  have hlen := strRows_len l.parts
  have hget := fun i h => strRows_at (l := l.parts) (i := i) h
  have hjs := fun (k : Nat) (h : k < l.parts.length) => Lib.joinTail_take_succ [47] l.parts k l.parts[k] (List.getElem?_eq_getElem h)
  have hjl := fun k => Lib.joinTail_take_le [47] l.parts k
  have hj0 : Lib.joinTail [47] (l.parts.take 0) = [] := rfl
  have hjn : Lib.joinTail [47] (l.parts.take l.parts.length) = Lib.joinTail [47] l.parts := by rw [List.take_length]
  obtain ⟨sch, host, port, parts, dir⟩ := l
  dsimp only at *
  generalize Lib.itoa port = I at *
  generalize wr ⟨sch, host, port, parts, dir⟩ = W at *
  refine .enter Tryz.func91 rfl rfl rfl 47 Tryz.ntmps91 (Nat.le_of_ble_eq_true rfl) ?_
  repeat' first
    | refine WpA.seq ?_
    | refine WpA.region ?_
    | refine WpOps.op _ rfl rfl rfl rfl rfl ?_
    | refine WpOps.box _ rfl rfl rfl rfl rfl ?_
    | refine WpOps.nil ?_
  obtain ⟨pre, hpre⟩ : ∃ pre, (if sch = 1 then rsyncS ++ markS else httpsS ++ markS) = pre := ⟨_, rfl⟩
  have hprel : pre.length ≤ 8 := by rw [← hpre]; split <;> decide
  obtain ⟨po, hpo⟩ : ∃ po, (if port = 0 then [] else 58 :: I) = po := ⟨_, rfl⟩
  have hpol : po.length ≤ 22 := by rw [← hpo]; split <;> simp; omega
  rw [hpre, hpo] at hw
  show WpA E none 47 (Code.cond _ _ _) (thenK (WpA E none 47 _ _) _) _ _
  refine WpA.joinS [(1, .ptr H.length 0 0), (3, .str pre)] (H ++ [.cells [.int .u8 sch, .str host, .int .i64 port, .sl .no 1 (strRows parts), .bool dir]]) ?_ ?_
  · by_cases hs : sch = 1
    · have hd : (sch == 1) = true := by simpa using hs
      rw [if_pos hs] at hpre
      rw [← hpre]
      repeat' first
        | refine WpA.condT (congrArg AV.bool hd) ?_
        | refine WpA.region ?_
        | refine WpOps.op _ rfl rfl rfl rfl rfl ?_
        | refine WpOps.nil ?_
      exact ⟨⟨rfl, rfl, trivial⟩, rfl⟩
    · have hd : (sch == 1) = false := by simpa using hs
      rw [if_neg hs] at hpre
      rw [← hpre]
      repeat' first
        | refine WpA.condF (congrArg AV.bool hd) ?_
        | refine WpA.skip ?_
      exact ⟨⟨rfl, rfl, trivial⟩, rfl⟩
  repeat' first
    | refine WpA.seq ?_
    | refine WpA.region ?_
    | refine WpOps.op _ rfl rfl rfl rfl rfl ?_
    | (refine WpOps.addS rfl rfl rfl rfl rfl rfl (by first | omega | (simp; omega)) ?_)
    | refine WpOps.nil ?_
  show WpA E none 47 (Code.cond _ _ _) (thenK (WpA E none 47 _ _) _) _ _
  refine WpA.joinS [(1, .ptr H.length 0 0), (3, .str (pre ++ host ++ po))] (H ++ [.cells [.int .u8 sch, .str host, .int .i64 port, .sl .no 1 (strRows parts), .bool dir]]) ?_ ?_
  · by_cases hs : port = 0
    · have hd : (port != 0) = false := by simp [hs]
      rw [if_pos hs] at hpo
      rw [← hpo, List.append_nil]
      repeat' first
        | refine WpA.condF (congrArg AV.bool hd) ?_
        | refine WpA.skip ?_
      exact ⟨⟨rfl, rfl, trivial⟩, rfl⟩
    · have hd : (port != 0) = true := by simp [hs]
      rw [if_neg hs] at hpo
      rw [← hpo]
      repeat' first
        | refine WpA.condT (congrArg AV.bool hd) ?_
        | refine WpA.region ?_
        | refine WpOps.op _ rfl rfl rfl rfl rfl ?_
        | (refine WpOps.call rfl rfl rfl rfl rfl (by exact hI _) ?_; rintro _ _ ⟨rfl, rfl⟩)
        | (refine WpOps.addS rfl rfl rfl rfl rfl rfl (by first | omega | (simp; omega)) ?_)
        | refine WpOps.nil ?_
      refine ⟨⟨rfl, congrArg AV.str ?_, trivial⟩, rfl⟩
      simp
  obtain ⟨base, hbase⟩ : ∃ base, pre ++ host ++ po = base := ⟨_, rfl⟩
  have hbl : base.length ≤ 2000000 := by rw [← hbase]; simp; omega
  rw [hbase] at hw ⊢
  repeat' first
    | refine WpA.seq ?_
    | refine WpA.region ?_
    | refine WpOps.op _ rfl rfl rfl rfl rfl ?_
    | refine WpA.block ?_
    | refine WpOps.nil ?_
  refine WpA.loopS (α := Nat) (fun i => [(1, .ptr H.length 0 0), (3, .str (base ++ Lib.joinTail [47] (parts.take i))), (4, .int .i64 (i : Nat))]) (fun _ => H ++ [.cells [.int .u8 sch, .str host, .int .i64 port, .sl .no 1 (strRows parts), .bool dir]]) (fun i => i ≤ parts.length) (fun i => parts.length - i) 0 (Nat.zero_le _) ⟨rfl, by rw [hj0, List.append_nil]; rfl, rfl, trivial⟩ rfl (fun i hi => ?_)
  by_cases hlt : i < parts.length
  · have hd : decide (((i : Nat) : Int) < (((strRows parts).length : Nat) : Int)) = true := decide_eq_true (by rw [hlen]; omega)
    have hg := hget i hlt
    have h1 := hjs i hlt
    have h2 := hjl i
    have h3 := hjl (i + 1)
    rw [h1] at h3
    simp only [List.length_append] at h3
    generalize parts[i] = p at *
    generalize Lib.joinTail [47] (parts.take i) = J at *
    repeat' first
      | refine WpA.condT (congrArg AV.bool hd) ?_
      | (refine WpOps.elem _ rfl rfl rfl rfl rfl rfl rfl rfl rfl (Int.natCast_nonneg i) hg ?_)
      | refine WpA.seq ?_
      | refine WpA.region ?_
      | refine WpOps.op _ rfl rfl rfl rfl rfl ?_
      | (refine WpOps.addS rfl rfl rfl rfl rfl rfl (by first | omega | (simp; omega)) ?_)
      | refine WpA.block ?_
      | refine WpOps.nil ?_
      | refine WpA.skip ?_
    refine ⟨i + 1, hlt, by omega, ⟨rfl, congrArg AV.str ?_, congrArg (AV.int .i64) (wrap64 (by omega) (by omega)), trivial⟩, rfl⟩
    rw [h1]
    simp
  · have hd : decide (((i : Nat) : Int) < (((strRows parts).length : Nat) : Int)) = false := decide_eq_false (by rw [hlen]; omega)
    obtain rfl : i = parts.length := by omega
    rw [hjn]
    generalize Lib.joinTail [47] parts = J at *
    repeat' first
      | refine WpA.condF (congrArg AV.bool hd) ?_
      | refine WpA.seq ?_
      | refine WpA.region ?_
      | refine WpOps.op _ rfl rfl rfl rfl rfl ?_
      | refine WpOps.skip rfl rfl rfl ?_
      | (refine WpOps.addS rfl rfl rfl rfl rfl rfl (by first | omega | (simp; omega)) ?_)
      | refine WpOps.gsplit _ rfl rfl rfl (fun h => ?_) (fun h => ?_)
      | refine WpA.exit ?_
      | refine WpOps.nil ?_
      | refine WpA.ret ?_
      | refine WpA.skip ?_
      | refine WpA.condT rfl ?_
      | refine WpA.cond _ rfl (fun h => ?_) (fun h => ?_)
    all_goals
      refine retK.ok rfl rfl (congrArg AV.str ?_) .str
      rw [hw]
      clear hw hI hget hjs hjl
      simp_all
end Go.Gp.Tryz
