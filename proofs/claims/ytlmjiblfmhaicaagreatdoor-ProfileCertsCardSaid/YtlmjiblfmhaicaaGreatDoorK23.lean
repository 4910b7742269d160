/- Part of a proof: GhQ29, GhQ18, GhQ30, GhQ2 -/
import Derived.Test.YtlmjiblfmhaicaaGreatDoorK13
import Derived.Test.YtlmjiblfmhaicaaGreatDoorK17
import Derived.Test.YtlmjiblfmhaicaaGreatDoorK18
import Derived.Test.YtlmjiblfmhaicaaGreatDoorK22

set_option linter.unusedSectionVars false

/- Locators: Split. -/
namespace Go.Gp.Tryz
variable [Inhabited MaxLenT]
open Go.Proofs
set_option linter.unusedVariables false
set_option linter.unusedSimpArgs false
set_option linter.unusedSectionVars false
set_option maxHeartbeats 4000000

def upL (l : Loc) : Loc := ⟨l.sch, l.host, l.port, l.parts.take (l.parts.length - 1), true⟩
def lastL (l : Loc) : List UInt8 := (l.parts[l.parts.length - 1]?).getD []
def splitE (s : List UInt8) : List UInt8 × List UInt8 × Int :=
  if (parseE s).2 ≠ 0 then ([], [], 12) else if (parseE s).1.dir = true then ([], [], 2) else (wr (upL (parseE s).1), lastL (parseE s).1, 0)
theorem OkLoc.sm {l : Loc} (o : OkLoc l) : LocSm l := by
  have h1 := o.host
  unfold hostOk at h1
  simp only [Bool.and_eq_true, decide_eq_true_eq] at h1
  have h2 : ∀ p ∈ l.parts, p.length ≤ 200 := fun p hp => by
    have := o.names p hp
    unfold name at this
    simp only [Bool.and_eq_true, decide_eq_true_eq] at this
    omega
  have h3 := join_bound l.parts h2
  have := o.n10
  have := o.p0
  have := o.p1
  exact ⟨by omega, by omega, by omega, by omega, by omega⟩
theorem OkLoc.up {l : Loc} (o : OkLoc l) : LocSm (upL l) := by
  have h := o.sm
  have h2 : ∀ p ∈ l.parts, p.length ≤ 200 := fun p hp => by
    have := o.names p hp
    unfold name at this
    simp only [Bool.and_eq_true, decide_eq_true_eq] at this
    omega
  have h3 := join_bound (l.parts.take (l.parts.length - 1)) (fun p hp => h2 p (List.mem_of_mem_take hp))
  have := o.n10
  have h4 : (l.parts.take (l.parts.length - 1)).length ≤ 10 := by rw [List.length_take]; omega
  exact ⟨h.host, h.p0, h.p1, by show (l.parts.take (l.parts.length - 1)).length ≤ _; omega, by show (Lib.join (l.parts.take (l.parts.length - 1)) [47]).length ≤ _; omega⟩
def splitAV (x : List UInt8 × List UInt8 × Int) : AV := .tup [.str x.1, .str x.2.1, .int .i64 x.2.2]
theorem split_bd (n : Nat) (x : List UInt8 × List UInt8 × Int) : Bd n (splitAV x) := .tup fun y hy => by
  simp only [List.mem_cons, List.not_mem_nil, or_false] at hy
  rcases hy with rfl | rfl | rfl
  · exact .str
  · exact .str
  · exact .int
theorem locSplit_A (s : List UInt8) (H : List AObj) (hs : s.length ≤ 1000000) : CallsA E 136 [.str s] H (Is H (splitAV (splitE s))) := by
  have hP := fun X => Parse_A s X hs
  have hsp := parseE_spec s
  unfold splitE
  generalize parseE s = pe at *
  obtain ⟨l, e⟩ := pe
  dsimp only at hP hsp ⊢
  refine .enter Tryz.func136 rfl rfl rfl 35 Tryz.ntmps136 (Nat.le_of_ble_eq_true rfl) ?_
  rcases hsp with ⟨rfl, hck, _⟩ | h
  · have o := chkE_ok hck
    rw [if_neg (by simp)]
    have hW := fun X => write_A (upL l) X o.up
    have hlen := strRows_len l.parts
    have hget := fun i h => strRows_at (l := l.parts) (i := i) h
    have hn10 := o.n10
    have hsome := o.some
    have hla : ∀ h : l.parts.length - 1 < l.parts.length, lastL l = l.parts[l.parts.length - 1] := fun h => by unfold lastL; rw [List.getElem?_eq_getElem h]; rfl
    have hup : upL l = ⟨l.sch, l.host, l.port, l.parts.take (l.parts.length - 1), true⟩ := rfl
    generalize lastL l = la at *
    rw [hup] at hW ⊢
    clear hup hck o
    obtain ⟨sch, host, port, parts, dir⟩ := l
    dsimp only at *
    generalize wr ⟨sch, host, port, parts.take (parts.length - 1), true⟩ = ws at *
    cases dir with
    | true =>
      rw [if_pos rfl]
      repeat' first
        | refine WpA.seq ?_
        | refine WpA.region ?_
        | refine WpOps.op _ rfl rfl rfl rfl rfl ?_
        | refine WpOps.alloc _ rfl rfl rfl rfl rfl rfl ?_
        | refine WpOps.store rfl rfl rfl rfl rfl rfl rfl rfl rfl rfl ?_
        | (refine WpOps.call rfl rfl rfl rfl rfl (by exact hP _) ?_; rintro _ _ ⟨rfl, rfl⟩)
        | refine WpOps.nil ?_
        | refine WpA.ret ?_
        | refine WpA.skip ?_
        | refine WpA.condT rfl ?_
        | refine WpA.condF rfl ?_
      exact retK.ok rfl rfl rfl (split_bd _ _)
    | false =>
      rw [if_neg (by decide)]
      have hpos : 0 < parts.length := by
        rcases hsome with h | h
        · exact List.length_pos_iff.2 h
        · cases h
      have hlt : parts.length - 1 < parts.length := by omega
      have hg := hget (parts.length - 1) hlt
      rw [← hla hlt] at hg
      have hw : IntKind.i64.wrap ((((strRows parts).length : Nat) : Int) - 1) = ((parts.length - 1 : Nat) : Int) := by rw [hlen, wrap64 (by omega) (by omega)]; omega
      have hsl : ((strRows parts).take (parts.length - 1)).drop 0 = strRows (parts.take (parts.length - 1)) := by rw [List.drop_zero, strRows, strRows, List.map_take]
      clear hget hla hsome
      generalize hk : parts.length - 1 = k at *
      generalize hp' : parts.take k = parts' at *
      repeat' first
        | refine WpA.drawI (id := 7) [H.length + 0] [0, 4, 0, 0, 0, 0, 4, 0, 0, 0, 0, 2, 0, 2] (by kernel_rfl) (by kernel_rfl) ?_
        | (refine LexH.p0 rfl rfl rfl rfl (fun H0 => .elem rfl rfl rfl rfl rfl rfl (by rw [hw]; exact Int.natCast_nonneg _) (by rw [hw]; exact hg)) ?_)
        | (refine LexH.p0 rfl rfl rfl rfl (fun H0 => (show P1 E 35 H0 H0 _ _ (.sl .no 1 (strRows parts')) from by rw [← hsl]; exact .slice 0 k rfl rfl rfl rfl rfl ⟨_, _, rfl, by rw [hw]; exact Int.natCast_nonneg _, by rw [hw]; exact Int.toNat_natCast _⟩ (Nat.zero_le _) (by rw [hlen]; omega))) ?_)
        | refine WpA.seq ?_
        | refine WpA.region ?_
        | refine WpOps.op _ rfl rfl rfl rfl rfl ?_
        | refine WpOps.alloc _ rfl rfl rfl rfl rfl rfl ?_
        | refine WpOps.store rfl rfl rfl rfl rfl rfl rfl rfl rfl rfl ?_
        | (refine WpOps.call rfl rfl rfl rfl rfl (by exact hP _) ?_; rintro _ _ ⟨rfl, rfl⟩)
        | (refine WpOps.call rfl rfl rfl rfl rfl (by exact hW _) ?_; rintro _ _ ⟨rfl, rfl⟩)
        | refine WpOps.nil ?_
        | refine WpA.ret ?_
        | refine WpA.skip ?_
        | refine WpA.condF rfl ?_
        | refine LexH.op0 _ rfl rfl rfl rfl rfl (fun _ => rfl) ?_
        | refine LexH.load4 _ rfl rfl rfl rfl rfl rfl (by simp) rfl rfl rfl rfl ?_
        | refine LexH.store rfl rfl rfl rfl rfl rfl rfl rfl rfl rfl rfl ?_
        | refine LexH.nil ?_
      exact retK.ok rfl rfl rfl (split_bd _ _)
  · injection h with h1 h2
    subst h1; subst h2
    rw [if_pos (by decide)]
    repeat' first
      | refine WpA.seq ?_
      | refine WpA.region ?_
      | refine WpOps.op _ rfl rfl rfl rfl rfl ?_
      | refine WpOps.alloc _ rfl rfl rfl rfl rfl rfl ?_
      | refine WpOps.store rfl rfl rfl rfl rfl rfl rfl rfl rfl rfl ?_
      | (refine WpOps.call rfl rfl rfl rfl rfl (by exact hP _) ?_; rintro _ _ ⟨rfl, rfl⟩)
      | refine WpOps.nil ?_
      | refine WpA.ret ?_
      | refine WpA.condT rfl ?_
    exact retK.ok rfl rfl rfl (split_bd _ _)
theorem refSplit_A (s : List UInt8) (H : List AObj) (hs : s.length ≤ 1000000) : CallsA E 94 [.str s] H (Is H (splitAV (splitE s))) := by
  have hP := fun X => refParse_A s X hs
  have hsp := parseE_spec s
  unfold splitE
  generalize parseE s = pe at *
  obtain ⟨l, e⟩ := pe
  dsimp only at hP hsp ⊢
  refine .enter Tryz.func94 rfl rfl rfl 37 Tryz.ntmps94 (Nat.le_of_ble_eq_true rfl) ?_
  rcases hsp with ⟨rfl, hck, _⟩ | h
  · have o := chkE_ok hck
    rw [if_neg (by simp)]
    have hW := fun X => refWrite_A (upL l) X o.up o.p0 (by show l.port ≤ _; have := o.p1; omega)
    have hlen := strRows_len l.parts
    have hget := fun i h => strRows_at (l := l.parts) (i := i) h
    have hn10 := o.n10
    have hsome := o.some
    have hla : ∀ h : l.parts.length - 1 < l.parts.length, lastL l = l.parts[l.parts.length - 1] := fun h => by unfold lastL; rw [List.getElem?_eq_getElem h]; rfl
    have hup : upL l = ⟨l.sch, l.host, l.port, l.parts.take (l.parts.length - 1), true⟩ := rfl
    generalize lastL l = la at *
    rw [hup] at hW ⊢
    clear hup hck o
    obtain ⟨sch, host, port, parts, dir⟩ := l
    dsimp only at *
    generalize wr ⟨sch, host, port, parts.take (parts.length - 1), true⟩ = ws at *
    cases dir with
    | true =>
      rw [if_pos rfl]
      repeat' first
        | refine WpA.seq ?_
        | refine WpA.region ?_
        | refine WpOps.op _ rfl rfl rfl rfl rfl ?_
        | refine WpOps.alloc _ rfl rfl rfl rfl rfl rfl ?_
        | refine WpOps.store rfl rfl rfl rfl rfl rfl rfl rfl rfl rfl ?_
        | (refine WpOps.call rfl rfl rfl rfl rfl (by exact hP _) ?_; rintro _ _ ⟨rfl, rfl⟩)
        | refine WpOps.nil ?_
        | refine WpA.ret ?_
        | refine WpA.skip ?_
        | refine WpA.condT rfl ?_
        | refine WpA.condF rfl ?_
      exact retK.ok rfl rfl rfl (split_bd _ _)
    | false =>
      rw [if_neg (by decide)]
      have hpos : 0 < parts.length := by
        rcases hsome with h | h
        · exact List.length_pos_iff.2 h
        · cases h
      have hlt : parts.length - 1 < parts.length := by omega
      have hg := hget (parts.length - 1) hlt
      rw [← hla hlt] at hg
      have hw : IntKind.i64.wrap ((((strRows parts).length : Nat) : Int) - 1) = ((parts.length - 1 : Nat) : Int) := by rw [hlen, wrap64 (by omega) (by omega)]; omega
      have hsl : ((strRows parts).take (parts.length - 1)).drop 0 = strRows (parts.take (parts.length - 1)) := by rw [List.drop_zero, strRows, strRows, List.map_take]
      clear hget hla hsome
      generalize hk : parts.length - 1 = k at *
      generalize hp' : parts.take k = parts' at *
      repeat' first
        | (refine WpOps.elem _ rfl rfl rfl rfl rfl rfl rfl rfl rfl (by rw [hw]; exact Int.natCast_nonneg _) (by rw [hw]; exact hg) ?_)
        | (refine WpOps.sliceE 0 k (strRows parts') rfl rfl rfl rfl rfl rfl rfl rfl ⟨_, _, rfl, by rw [hw]; exact Int.natCast_nonneg _, by rw [hw]; exact Int.toNat_natCast _⟩ (Nat.zero_le _) (by rw [hlen]; omega) hsl ?_)
        | refine WpA.seq ?_
        | refine WpA.region ?_
        | refine WpOps.op _ rfl rfl rfl rfl rfl ?_
        | refine WpOps.alloc _ rfl rfl rfl rfl rfl rfl ?_
        | refine WpOps.store rfl rfl rfl rfl rfl rfl rfl rfl rfl rfl ?_
        | (refine WpOps.call rfl rfl rfl rfl rfl (by exact hP _) ?_; rintro _ _ ⟨rfl, rfl⟩)
        | (refine WpOps.call rfl rfl rfl rfl rfl (by exact hW _) ?_; rintro _ _ ⟨rfl, rfl⟩)
        | refine WpOps.nil ?_
        | refine WpA.ret ?_
        | refine WpA.skip ?_
        | refine WpA.condF rfl ?_
      exact retK.ok rfl rfl rfl (split_bd _ _)
  · injection h with h1 h2
    subst h1; subst h2
    rw [if_pos (by decide)]
    repeat' first
      | refine WpA.seq ?_
      | refine WpA.region ?_
      | refine WpOps.op _ rfl rfl rfl rfl rfl ?_
      | refine WpOps.alloc _ rfl rfl rfl rfl rfl rfl ?_
      | refine WpOps.store rfl rfl rfl rfl rfl rfl rfl rfl rfl rfl ?_
      | (refine WpOps.call rfl rfl rfl rfl rfl (by exact hP _) ?_; rintro _ _ ⟨rfl, rfl⟩)
      | refine WpOps.nil ?_
      | refine WpA.ret ?_
      | refine WpA.condT rfl ?_
    exact retK.ok rfl rfl rfl (split_bd _ _)
end Go.Gp.Tryz

/- Lists of strings: equality. -/
namespace Go.Gp.Tryz
variable [Inhabited MaxLenT]
open Go.Proofs
set_option linter.unusedVariables false
set_option linter.unusedSimpArgs false
set_option linter.unusedSectionVars false
set_option maxHeartbeats 4000000

def eqStrs (l m : List (List UInt8)) : Bool := decide (l = m)
theorem eqStrs_len {l m : List (List UInt8)} (h : l.length ≠ m.length) : eqStrs l m = false := decide_eq_false fun e => h (by rw [e])
theorem eqStrs_at {l m : List (List UInt8)} {i : Nat} (hl : i < l.length) (hm : i < m.length) (h : l[i] ≠ m[i]) : eqStrs l m = false := decide_eq_false fun e => h (by subst e; rfl)
theorem eqStrs_true {l m : List (List UInt8)} (hl : l.length = m.length) (h : ∀ j (h1 : j < l.length) (h2 : j < m.length), l[j] = m[j]) : eqStrs l m = true := decide_eq_true (List.ext_getElem hl h)
theorem equalS_A (l m : List (List UInt8)) (H : List AObj) (hl : l.length ≤ 1000000) : CallsA E 135 [.sl .no 1 (strRows l), .sl .no 1 (strRows m)] H (Is H (.bool (eqStrs l m))) := by
  have hll := strRows_len l
  have hml := strRows_len m
  refine .enter Tryz.func135 rfl rfl rfl 26 Tryz.ntmps135 (Nat.le_of_ble_eq_true rfl) ?_
  by_cases hlen : l.length = m.length
  · have hd0 : ((((strRows l).length : Nat) : Int) != (((strRows m).length : Nat) : Int)) = false := by rw [hll, hml, hlen]; simp
    repeat' first
      | refine WpA.condF (congrArg AV.bool hd0) ?_
      | refine WpA.seq ?_
      | refine WpA.region ?_
      | refine WpOps.op _ rfl rfl rfl rfl rfl ?_
      | refine WpA.block ?_
      | refine WpOps.nil ?_
      | refine WpA.skip ?_
    refine WpA.loopS (α := Nat) (fun i => [(0, .sl .no 1 (strRows l)), (1, .sl .no 1 (strRows m)), (12, .int .i64 (l.length : Nat)), (13, .int .i64 (i : Nat))]) (fun _ => H ++ []) (fun i => i ≤ l.length ∧ ∀ j (hj : j < i) (h1 : j < l.length) (h2 : j < m.length), l[j] = m[j]) (fun i => l.length - i) 0 ⟨Nat.zero_le _, fun j hj => absurd hj (by omega)⟩ ⟨rfl, rfl, by rw [← hll]; rfl, rfl, trivial⟩ rfl (fun i hi => ?_)
    obtain ⟨hi1, hi2⟩ := hi
    by_cases hlt : i < l.length
    · have hd : decide (((i : Nat) : Int) < ((l.length : Nat) : Int)) = true := decide_eq_true (by omega)
      have hg := strRows_at hlt
      have hg' := strRows_at (l := m) (i := i) (by omega)
      by_cases he : l[i] = m[i]'(by omega)
      · obtain ⟨s, hs⟩ : ∃ s, l[i] = s := ⟨_, rfl⟩
        rw [← he, hs] at hg'
        rw [hs] at hg
        repeat' first
          | refine WpA.condT (congrArg AV.bool hd) ?_
          | (refine LexA.elem _ rfl rfl rfl rfl rfl rfl rfl rfl rfl (Int.natCast_nonneg i) hg ?_)
          | (refine LexA.elem _ rfl rfl rfl rfl rfl rfl rfl rfl rfl (Int.natCast_nonneg i) hg' ?_)
          | refine WpA.seq ?_
          | refine WpA.region ?_
          | refine WpOps.op _ rfl rfl rfl rfl rfl ?_
          | refine WpA.block ?_
          | refine WpOps.nil ?_
          | refine WpA.ret ?_
          | refine WpA.skip ?_
          | refine WpA.cond _ rfl (fun h => ?_) (fun h => ?_)
          | refine WpA.draw (by kernel_rfl) ?_
          | refine LexA.op _ rfl rfl rfl rfl rfl ?_
          | refine LexA.nil ?_
        · exact absurd h (by simp)
        · refine ⟨i + 1, ⟨hlt, fun j hj h1 h2 => ?_⟩, by omega, ⟨rfl, rfl, rfl, congrArg (AV.int .i64) (wrap64 (by omega) (by omega)), trivial⟩, rfl⟩
          rcases Nat.lt_or_ge j i with h | h
          · exact hi2 j h h1 h2
          · have : j = i := by omega
            subst this
            exact he
      · rw [eqStrs_at hlt (by omega) he]
        repeat' first
          | refine WpA.condT (congrArg AV.bool hd) ?_
          | (refine LexA.elem _ rfl rfl rfl rfl rfl rfl rfl rfl rfl (Int.natCast_nonneg i) hg ?_)
          | (refine LexA.elem _ rfl rfl rfl rfl rfl rfl rfl rfl rfl (Int.natCast_nonneg i) hg' ?_)
          | refine WpA.seq ?_
          | refine WpA.region ?_
          | refine WpOps.op _ rfl rfl rfl rfl rfl ?_
          | refine WpA.block ?_
          | refine WpOps.nil ?_
          | refine WpA.ret ?_
          | refine WpA.skip ?_
          | refine WpA.cond _ rfl (fun h => ?_) (fun h => ?_)
          | refine WpA.draw (by kernel_rfl) ?_
          | refine LexA.op _ rfl rfl rfl rfl rfl ?_
          | refine LexA.nil ?_
        · exact retK.ok rfl rfl rfl .bool
        · exact absurd (by simpa using h) he
    · have hd : decide (((i : Nat) : Int) < ((l.length : Nat) : Int)) = false := decide_eq_false (by omega)
      rw [eqStrs_true hlen (fun j h1 h2 => hi2 j (by omega) h1 h2)]
      repeat' first
        | refine WpA.condF (congrArg AV.bool hd) ?_
        | refine WpA.seq ?_
        | refine WpA.region ?_
        | refine WpOps.op _ rfl rfl rfl rfl rfl ?_
        | refine WpA.exit ?_
        | refine WpOps.nil ?_
        | refine WpA.ret ?_
      exact retK.ok rfl rfl rfl .bool
  · have hd0 : ((((strRows l).length : Nat) : Int) != (((strRows m).length : Nat) : Int)) = true := by rw [hll, hml]; simp; omega
    rw [eqStrs_len hlen]
    repeat' first
      | refine WpA.condT (congrArg AV.bool hd0) ?_
      | refine WpA.seq ?_
      | refine WpA.region ?_
      | refine WpOps.op _ rfl rfl rfl rfl rfl ?_
      | refine WpOps.nil ?_
      | refine WpA.ret ?_
    exact retK.ok rfl rfl rfl .bool
end Go.Gp.Tryz

/- Locators: Within. -/
namespace Go.Gp.Tryz
variable [Inhabited MaxLenT]
open Go.Proofs
set_option linter.unusedVariables false
set_option linter.unusedSimpArgs false
set_option linter.unusedSectionVars false
set_option maxHeartbeats 4000000

def holdsE (d l : Loc) : Bool := (d.sch == l.sch) && (d.host == l.host) && (d.port == l.port) && decide (d.parts.length ≤ l.parts.length) && eqStrs d.parts (l.parts.take d.parts.length) && (decide (d.parts.length < l.parts.length) || l.dir)
def withinE (a b : List UInt8) : Bool × Int :=
  if (parseE a).2 ≠ 0 ∨ (parseE b).2 ≠ 0 then (false, 12) else if (parseE a).1.dir = false then (false, 2) else (holdsE (parseE a).1 (parseE b).1, 0)
def withAV (x : Bool × Int) : AV := .tup [.bool x.1, .int .i64 x.2]
theorem with_bd (n : Nat) (x : Bool × Int) : Bd n (withAV x) := .tup fun y hy => by
  simp only [List.mem_cons, List.not_mem_nil, or_false] at hy
  rcases hy with rfl | rfl
  · exact .bool
  · exact .int
theorem locWithin_A (a b : List UInt8) (H : List AObj) (ha : a.length ≤ 1000000) (hb : b.length ≤ 1000000) : CallsA E 109 [.str a, .str b] H (Is H (withAV (withinE a b))) := by
  have hP := fun X => Parse_A a X ha
  have hQ := fun X => Parse_A b X hb
  have hsp := parseE_spec a
  have hsq := parseE_spec b
  unfold withinE
  generalize parseE a = pa at *
  generalize parseE b = pb at *
  obtain ⟨d, e⟩ := pa
  obtain ⟨l, f⟩ := pb
  dsimp only at hP hQ hsp hsq ⊢
  have he : e = 0 ∨ e = 12 := by
    rcases hsp with ⟨h, _⟩ | h
    · exact .inl h
    · injection h with h1 h2; exact .inr h2
  have hf : f = 0 ∨ f = 12 := by
    rcases hsq with ⟨h, _⟩ | h
    · exact .inl h
    · injection h with h1 h2; exact .inr h2
  refine .enter Tryz.func109 rfl rfl rfl 78 Tryz.ntmps109 (Nat.le_of_ble_eq_true rfl) ?_
  rcases he with rfl | rfl
  · rcases hf with rfl | rfl
    · rw [if_neg (by simp)]
      have o : OkLoc d := by
        rcases hsp with ⟨_, h, _⟩ | h
        · exact chkE_ok h
        · injection h with h1 h2; cases h2
      have o2 : OkLoc l := by
        rcases hsq with ⟨_, h, _⟩ | h
        · exact chkE_ok h
        · injection h with h1 h2; cases h2
      have hn1 := o.n10
      have hn2 := o2.n10
      have hE := fun X => equalS_A d.parts (l.parts.take d.parts.length) X (by omega)
      have hlen := strRows_len d.parts
      have hlen2 := strRows_len l.parts
      clear hsp hsq o o2
      unfold holdsE
      obtain ⟨sch, host, port, parts, dir⟩ := d
      obtain ⟨sch2, host2, port2, parts2, dir2⟩ := l
      dsimp only at *
      cases dir with
      | false =>
        rw [if_pos rfl]
        repeat' first
          | refine WpA.seq ?_
          | refine WpA.region ?_
          | refine WpOps.op _ rfl rfl rfl rfl rfl ?_
          | refine WpOps.alloc _ rfl rfl rfl rfl rfl rfl ?_
          | refine WpOps.store rfl rfl rfl rfl rfl rfl rfl rfl rfl rfl ?_
          | (refine WpOps.call rfl rfl rfl rfl rfl (by exact hP _) ?_; rintro _ _ ⟨rfl, rfl⟩)
          | (refine WpOps.call rfl rfl rfl rfl rfl (by exact hQ _) ?_; rintro _ _ ⟨rfl, rfl⟩)
          | refine WpOps.nil ?_
          | refine WpA.ret ?_
          | refine WpA.skip ?_
          | refine WpA.condT rfl ?_
          | refine WpA.condF rfl ?_
        exact retK.ok rfl rfl rfl (with_bd _ _)
      | true =>
        rw [if_neg (by decide)]
        have hlp : ((strRows parts2).take (strRows parts).length).drop 0 = strRows (parts2.take parts.length) := by rw [List.drop_zero, hlen, strRows, strRows, List.map_take]
        have hc1 : decide ((((strRows parts2).length : Nat) : Int) < (((strRows parts).length : Nat) : Int)) = !decide (parts.length ≤ parts2.length) := by
          rw [hlen, hlen2]
          by_cases h : parts.length ≤ parts2.length <;> simp [h] <;> omega
        have hc2 : ((((strRows parts2).length : Nat) : Int) == (((strRows parts).length : Nat) : Int)) = (decide (parts.length ≤ parts2.length) && !decide (parts.length < parts2.length)) := by
          rw [hlen, hlen2, Bool.eq_iff_iff]
          simp
          omega
        have hle : decide (parts.length ≤ parts2.length) = true → (strRows parts).length ≤ (strRows parts2).length := fun h => by rw [hlen, hlen2]; simpa using h
        generalize parts2.take parts.length = tk at *
        generalize eqStrs parts tk = eq at *
        generalize decide (parts.length ≤ parts2.length) = b1 at *
        generalize decide (parts.length < parts2.length) = b2 at *
        cases b1 with
        | false =>
          have g1 : ¬ (decide ((((strRows parts2).length : Nat) : Int) < (((strRows parts).length : Nat) : Int)) = false) := by rw [hc1]; decide
          have hz : ((sch == sch2) && (host == host2) && (port == port2) && false && eq && (b2 || dir2)) = false := by simp
          rw [hz]
          repeat' first
            | exact absurd (by assumption) g1
            | refine WpA.seq ?_
            | refine WpA.region ?_
            | refine WpOps.op _ rfl rfl rfl rfl rfl ?_
            | refine WpOps.alloc _ rfl rfl rfl rfl rfl rfl ?_
            | refine WpOps.store rfl rfl rfl rfl rfl rfl rfl rfl rfl rfl ?_
            | refine WpOps.skip rfl rfl rfl ?_
            | (refine WpOps.call rfl rfl rfl rfl rfl (by exact hP _) ?_; rintro _ _ ⟨rfl, rfl⟩)
            | (refine WpOps.call rfl rfl rfl rfl rfl (by exact hQ _) ?_; rintro _ _ ⟨rfl, rfl⟩)
            | refine WpOps.gsplit _ rfl rfl rfl (fun h => ?_) (fun h => ?_)
            | refine WpOps.nil ?_
            | refine WpA.ret ?_
            | refine WpA.skip ?_
            | refine WpA.condT rfl ?_
            | refine WpA.condF rfl ?_
          all_goals first
            | exact retK.ok rfl rfl rfl (with_bd _ _)
            | (exfalso; clear hP hQ hE; simp_all)
        | true =>
          have hle' := hle rfl
          repeat' first
            | refine WpA.seq ?_
            | refine WpA.region ?_
            | refine WpOps.op _ rfl rfl rfl rfl rfl ?_
            | refine WpOps.alloc _ rfl rfl rfl rfl rfl rfl ?_
            | refine WpOps.store rfl rfl rfl rfl rfl rfl rfl rfl rfl rfl ?_
            | refine WpOps.skip rfl rfl rfl ?_
            | (refine WpOps.call rfl rfl rfl rfl rfl (by exact hP _) ?_; rintro _ _ ⟨rfl, rfl⟩)
            | (refine WpOps.call rfl rfl rfl rfl rfl (by exact hQ _) ?_; rintro _ _ ⟨rfl, rfl⟩)
            | (refine LexA.p1 rfl rfl rfl (show P1 E 78 _ _ _ _ (.sl .no 1 (strRows tk)) from by rw [← hlp]; exact .slice 0 (strRows parts).length rfl rfl rfl rfl rfl ⟨_, _, rfl, Int.natCast_nonneg _, Int.toNat_natCast _⟩ (Nat.zero_le _) hle') ?_)
            | refine WpOps.gsplit _ rfl rfl rfl (fun h => ?_) (fun h => ?_)
            | refine WpOps.nil ?_
            | refine WpA.ret ?_
            | refine WpA.skip ?_
            | refine WpA.condT rfl ?_
            | refine WpA.condF rfl ?_
            | refine WpA.cond _ rfl (fun h => ?_) (fun h => ?_)
            | refine WpA.draw (by kernel_rfl) ?_
            | refine LexA.op _ rfl rfl rfl rfl rfl ?_
            | refine LexA.call rfl rfl rfl rfl rfl (by exact hE _) ?_
            | refine LexA.nil ?_
          all_goals
            refine retK.ok rfl rfl (congrArg (fun x => withAV (x, 0)) ?_) (with_bd _ _)
            clear hP hQ hE hle hle' hlp
            generalize ((((strRows parts2).length : Nat) : Int) == (((strRows parts).length : Nat) : Int)) = b3 at *
            generalize decide ((((strRows parts2).length : Nat) : Int) < (((strRows parts).length : Nat) : Int)) = b4 at *
            simp_all
    · rw [if_pos (by decide)]
      repeat' first
        | refine WpA.seq ?_
        | refine WpA.region ?_
        | refine WpOps.op _ rfl rfl rfl rfl rfl ?_
        | refine WpOps.alloc _ rfl rfl rfl rfl rfl rfl ?_
        | refine WpOps.store rfl rfl rfl rfl rfl rfl rfl rfl rfl rfl ?_
        | (refine WpOps.call rfl rfl rfl rfl rfl (by exact hP _) ?_; rintro _ _ ⟨rfl, rfl⟩)
        | (refine WpOps.call rfl rfl rfl rfl rfl (by exact hQ _) ?_; rintro _ _ ⟨rfl, rfl⟩)
        | refine WpOps.nil ?_
        | refine WpA.ret ?_
        | refine WpA.condT rfl ?_
      exact retK.ok rfl rfl rfl (with_bd _ _)
  · rw [if_pos (by simp)]
    repeat' first
      | refine WpA.seq ?_
      | refine WpA.region ?_
      | refine WpOps.op _ rfl rfl rfl rfl rfl ?_
      | refine WpOps.alloc _ rfl rfl rfl rfl rfl rfl ?_
      | refine WpOps.store rfl rfl rfl rfl rfl rfl rfl rfl rfl rfl ?_
      | refine WpOps.skip rfl rfl rfl ?_
      | (refine WpOps.call rfl rfl rfl rfl rfl (by exact hP _) ?_; rintro _ _ ⟨rfl, rfl⟩)
      | (refine WpOps.call rfl rfl rfl rfl rfl (by exact hQ _) ?_; rintro _ _ ⟨rfl, rfl⟩)
      | refine WpOps.nil ?_
      | refine WpA.ret ?_
      | refine WpA.condT rfl ?_
    exact retK.ok rfl rfl rfl (with_bd _ _)
theorem eqStrs_take {l m : List (List UInt8)} (h : l.length ≤ m.length) : eqStrs l (m.take l.length) = true ↔ ∀ j (h1 : j < l.length) (h2 : j < m.length), l[j] = m[j] := by
  constructor
  · intro he j h1 h2
    have he' : l = m.take l.length := of_decide_eq_true he
    have : l[j]? = (m.take l.length)[j]? := by rw [← he']
    rw [List.getElem?_take, if_pos h1, List.getElem?_eq_getElem h1, List.getElem?_eq_getElem h2] at this
    injection this
  · intro hj
    refine eqStrs_true (by rw [List.length_take]; omega) fun j h1 h2 => ?_
    rw [List.getElem_take]
    exact hj j h1 (by omega)
theorem holds_A (d l : Loc) (H : List AObj) (hd : d.parts.length ≤ 1000000) (hl2 : l.parts.length ≤ 1000000) : CallsA E 93 [.agg d.cells, .agg l.cells] H (Is H (.bool (holdsE d l))) := by
  have hlen := strRows_len d.parts
  have hlen2 := strRows_len l.parts
  have hg1 := fun i h => strRows_at (l := d.parts) (i := i) h
  have hg2 := fun i h => strRows_at (l := l.parts) (i := i) h
  unfold holdsE
  have heq := fun h => eqStrs_take (l := d.parts) (m := l.parts) h
  obtain ⟨sch, host, port, parts, dir⟩ := d
  obtain ⟨sch2, host2, port2, parts2, dir2⟩ := l
  dsimp only at *
  have hc1 : decide ((((strRows parts).length : Nat) : Int) > (((strRows parts2).length : Nat) : Int)) = !decide (parts.length ≤ parts2.length) := by
    rw [hlen, hlen2]
    by_cases h : parts.length ≤ parts2.length <;> simp [h] <;> omega
  have hc2 : decide ((((strRows parts).length : Nat) : Int) < (((strRows parts2).length : Nat) : Int)) = decide (parts.length < parts2.length) := by
    rw [hlen, hlen2, decide_eq_decide]; omega
  generalize eqStrs parts (parts2.take parts.length) = eq at *
  refine .enter Tryz.func93 rfl rfl rfl 63 Tryz.ntmps93 (Nat.le_of_ble_eq_true rfl) ?_
  obtain ⟨bad, hbad⟩ : ∃ bad, ((sch != sch2) || (host != host2) || (port != port2) || !decide (parts.length ≤ parts2.length)) = bad := ⟨_, rfl⟩
  have hres : ((sch == sch2) && (host == host2) && (port == port2) && decide (parts.length ≤ parts2.length) && eq && (decide (parts.length < parts2.length) || dir2)) = (!bad && eq && (decide (parts.length < parts2.length) || dir2)) := by
    rw [← hbad]; unfold bne
    generalize (sch == sch2) = x1
    generalize (host == host2) = x2
    generalize (port == port2) = x3
    generalize decide (parts.length ≤ parts2.length) = x4
    cases x1 <;> cases x2 <;> cases x3 <;> cases x4 <;> rfl
  rw [hres]
  clear hres
  refine WpA.seq ?_
  repeat' first
    | refine WpA.region ?_
    | refine WpOps.op _ rfl rfl rfl rfl rfl ?_
    | refine WpOps.box _ rfl rfl rfl rfl rfl ?_
    | refine WpOps.nil ?_
  show WpA E none 63 (Code.seq (Code.seq _ _) _) _ _ _
  refine WpA.seq ?_
  refine WpA.cutS [(2, .ptr H.length 0 0), (3, .ptr H.length 1 0), (33, .bool bad)] (H ++ [.cells [.int .u8 sch, .str host, .int .i64 port, .sl .no 1 (strRows parts), .bool dir], .cells [.int .u8 sch2, .str host2, .int .i64 port2, .sl .no 1 (strRows parts2), .bool dir2]]) ?_ ?_
  · rw [← hbad, ← hc1]
    repeat' first
      | refine WpA.region ?_
      | refine WpOps.op _ rfl rfl rfl rfl rfl ?_
      | refine WpOps.skip rfl rfl rfl ?_
      | refine WpOps.gsplit _ rfl rfl rfl (fun h => ?_) (fun h => ?_)
      | refine WpOps.nil ?_
    all_goals
      refine ⟨rfl, ⟨rfl, rfl, congrArg AV.bool ?_, trivial⟩, rfl⟩
      clear hg1 hg2 heq hbad hc1 hc2
      generalize decide ((((strRows parts).length : Nat) : Int) > (((strRows parts2).length : Nat) : Int)) = b4 at *
      simp_all
  clear hc1
  cases bad with
  | true =>
    repeat' first
      | refine WpA.seq ?_
      | refine WpA.region ?_
      | refine WpOps.op _ rfl rfl rfl rfl rfl ?_
      | refine WpOps.nil ?_
      | refine WpA.ret ?_
      | refine WpA.condT rfl ?_
    exact retK.ok rfl rfl rfl .bool
  | false =>
    have hle : parts.length ≤ parts2.length := by
      cases hx : decide (parts.length ≤ parts2.length) with
      | true => simpa using hx
      | false => rw [hx] at hbad; simp at hbad
    have heq' := heq hle
    rw [Bool.not_false, Bool.true_and]
    repeat' first
      | refine WpA.seq ?_
      | refine WpA.region ?_
      | refine WpOps.op _ rfl rfl rfl rfl rfl ?_
      | refine WpA.block ?_
      | refine WpOps.nil ?_
      | refine WpA.skip ?_
      | refine WpA.condF rfl ?_
    refine WpA.loopS (α := Nat) (fun i => [(2, .ptr H.length 0 0), (3, .ptr H.length 1 0), (5, .int .i64 (i : Nat))]) (fun _ => H ++ [.cells [.int .u8 sch, .str host, .int .i64 port, .sl .no 1 (strRows parts), .bool dir], .cells [.int .u8 sch2, .str host2, .int .i64 port2, .sl .no 1 (strRows parts2), .bool dir2]])
      (fun i => i ≤ parts.length ∧ ∀ j (hj : j < i) (h1 : j < parts.length) (h2 : j < parts2.length), parts[j] = parts2[j]) (fun i => parts.length - i) 0 ⟨Nat.zero_le _, fun j hj => absurd hj (by omega)⟩ ⟨rfl, rfl, rfl, trivial⟩ rfl (fun i hi => ?_)
    obtain ⟨hi1, hi2⟩ := hi
    by_cases hlt : i < parts.length
    · have hdl : decide (((i : Nat) : Int) < (((strRows parts).length : Nat) : Int)) = true := decide_eq_true (by rw [hlen]; omega)
      have h1 := hg1 i hlt
      have h2 := hg2 i (by omega)
      by_cases hx : parts[i] = parts2[i]'(by omega)
      · have hne : (!(parts[i] == parts2[i]'(by omega))) = false := by rw [hx]; simp
        obtain ⟨u, hu⟩ : ∃ u, parts[i] = u := ⟨_, rfl⟩
        obtain ⟨w, hw⟩ : ∃ w, parts2[i]'(by omega) = w := ⟨_, rfl⟩
        rw [hu] at h1 hne
        rw [hw] at h2 hne
        repeat' first
          | refine WpA.condT (congrArg AV.bool hdl) ?_
          | refine WpA.condF (congrArg AV.bool hne) ?_
          | (refine LexA.elem _ rfl rfl rfl rfl rfl rfl rfl rfl rfl (Int.natCast_nonneg i) h1 ?_)
          | (refine LexA.elem _ rfl rfl rfl rfl rfl rfl rfl rfl rfl (Int.natCast_nonneg i) h2 ?_)
          | refine WpA.seq ?_
          | refine WpA.region ?_
          | refine WpOps.op _ rfl rfl rfl rfl rfl ?_
          | refine WpA.block ?_
          | refine WpOps.nil ?_
          | refine WpA.skip ?_
          | refine WpA.draw (by kernel_rfl) ?_
          | refine LexA.op _ rfl rfl rfl rfl rfl ?_
          | refine LexA.nil ?_
        refine ⟨i + 1, ⟨hlt, fun j hj g1 g2 => ?_⟩, by omega, ⟨rfl, rfl, congrArg (AV.int .i64) (wrap64 (by omega) (by omega)), trivial⟩, rfl⟩
        rcases Nat.lt_or_ge j i with h | h
        · exact hi2 j h g1 g2
        · have : j = i := by omega
          subst this
          exact hx
      · have hne : (!(parts[i] == parts2[i]'(by omega))) = true := by simpa using hx
        have he : eq = false := by
          cases eq with
          | false => rfl
          | true => exact absurd (heq'.1 rfl i hlt (by omega)) hx
        obtain ⟨u, hu⟩ : ∃ u, parts[i] = u := ⟨_, rfl⟩
        obtain ⟨w, hw⟩ : ∃ w, parts2[i]'(by omega) = w := ⟨_, rfl⟩
        rw [hu] at h1 hne
        rw [hw] at h2 hne
        rw [he, Bool.false_and]
        repeat' first
          | refine WpA.condT (congrArg AV.bool hdl) ?_
          | refine WpA.condT (congrArg AV.bool hne) ?_
          | (refine LexA.elem _ rfl rfl rfl rfl rfl rfl rfl rfl rfl (Int.natCast_nonneg i) h1 ?_)
          | (refine LexA.elem _ rfl rfl rfl rfl rfl rfl rfl rfl rfl (Int.natCast_nonneg i) h2 ?_)
          | refine WpA.seq ?_
          | refine WpA.region ?_
          | refine WpOps.op _ rfl rfl rfl rfl rfl ?_
          | refine WpA.block ?_
          | refine WpOps.nil ?_
          | refine WpA.ret ?_
          | refine WpA.skip ?_
          | refine WpA.draw (by kernel_rfl) ?_
          | refine LexA.op _ rfl rfl rfl rfl rfl ?_
          | refine LexA.nil ?_
        exact retK.ok rfl rfl rfl .bool
    · have hdl : decide (((i : Nat) : Int) < (((strRows parts).length : Nat) : Int)) = false := decide_eq_false (by rw [hlen]; omega)
      have he : eq = true := heq'.2 fun j h1 h2 => hi2 j (by omega) h1 h2
      rw [he, Bool.true_and, ← hc2]
      repeat' first
        | refine WpA.condF (congrArg AV.bool hdl) ?_
        | refine WpA.seq ?_
        | refine WpA.region ?_
        | refine WpOps.op _ rfl rfl rfl rfl rfl ?_
        | refine WpOps.skip rfl rfl rfl ?_
        | refine WpOps.gsplit _ rfl rfl rfl (fun h => ?_) (fun h => ?_)
        | refine WpA.exit ?_
        | refine WpOps.nil ?_
        | refine WpA.ret ?_
      all_goals
        refine retK.ok rfl rfl (congrArg AV.bool ?_) .bool
        clear hg1 hg2 heq heq' hc2
        generalize decide ((((strRows parts).length : Nat) : Int) < (((strRows parts2).length : Nat) : Int)) = b4 at *
        simp_all
theorem refWithin_A (a b : List UInt8) (H : List AObj) (ha : a.length ≤ 1000000) (hb : b.length ≤ 1000000) : CallsA E 70 [.str a, .str b] H (Is H (withAV (withinE a b))) := by
  have hP := fun X => refParse_A a X ha
  have hQ := fun X => refParse_A b X hb
  have hsp := parseE_spec a
  have hsq := parseE_spec b
  unfold withinE
  generalize parseE a = pa at *
  generalize parseE b = pb at *
  obtain ⟨d, e⟩ := pa
  obtain ⟨l, f⟩ := pb
  dsimp only at hP hQ hsp hsq ⊢
  have he : e = 0 ∨ e = 12 := by
    rcases hsp with ⟨h, _⟩ | h
    · exact .inl h
    · injection h with h1 h2; exact .inr h2
  have hf : f = 0 ∨ f = 12 := by
    rcases hsq with ⟨h, _⟩ | h
    · exact .inl h
    · injection h with h1 h2; exact .inr h2
  refine .enter Tryz.func70 rfl rfl rfl 32 Tryz.ntmps70 (Nat.le_of_ble_eq_true rfl) ?_
  rcases he with rfl | rfl
  · rcases hf with rfl | rfl
    · rw [if_neg (by simp)]
      have o : OkLoc d := by
        rcases hsp with ⟨_, h, _⟩ | h
        · exact chkE_ok h
        · injection h with h1 h2; cases h2
      have o2 : OkLoc l := by
        rcases hsq with ⟨_, h, _⟩ | h
        · exact chkE_ok h
        · injection h with h1 h2; cases h2
      have hn1 := o.n10
      have hn2 := o2.n10
      have hE := fun X => holds_A d l X (by omega) (by omega)
      clear hsp hsq o o2
      generalize holdsE d l = R at *
      obtain ⟨sch, host, port, parts, dir⟩ := d
      obtain ⟨sch2, host2, port2, parts2, dir2⟩ := l
      dsimp only at *
      cases dir with
      | false =>
        rw [if_pos rfl]
        repeat' first
          | refine WpA.seq ?_
          | refine WpA.region ?_
          | refine WpOps.op _ rfl rfl rfl rfl rfl ?_
          | refine WpOps.alloc _ rfl rfl rfl rfl rfl rfl ?_
          | refine WpOps.store rfl rfl rfl rfl rfl rfl rfl rfl rfl rfl ?_
          | (refine WpOps.call rfl rfl rfl rfl rfl (by exact hP _) ?_; rintro _ _ ⟨rfl, rfl⟩)
          | (refine WpOps.call rfl rfl rfl rfl rfl (by exact hQ _) ?_; rintro _ _ ⟨rfl, rfl⟩)
          | refine WpOps.nil ?_
          | refine WpA.ret ?_
          | refine WpA.skip ?_
          | refine WpA.condT rfl ?_
          | refine WpA.condF rfl ?_
        exact retK.ok rfl rfl rfl (with_bd _ _)
      | true =>
        rw [if_neg (by decide)]
        repeat' first
          | refine WpA.seq ?_
          | refine WpA.region ?_
          | refine WpOps.op _ rfl rfl rfl rfl rfl ?_
          | refine WpOps.alloc _ rfl rfl rfl rfl rfl rfl ?_
          | refine WpOps.store rfl rfl rfl rfl rfl rfl rfl rfl rfl rfl ?_
          | (refine WpOps.call rfl rfl rfl rfl rfl (by exact hP _) ?_; rintro _ _ ⟨rfl, rfl⟩)
          | (refine WpOps.call rfl rfl rfl rfl rfl (by exact hQ _) ?_; rintro _ _ ⟨rfl, rfl⟩)
          | (refine WpOps.call rfl rfl rfl rfl rfl (by exact hE _) ?_; rintro _ _ ⟨rfl, rfl⟩)
          | refine WpOps.nil ?_
          | refine WpA.ret ?_
          | refine WpA.skip ?_
          | refine WpA.condF rfl ?_
        exact retK.ok rfl rfl rfl (with_bd _ _)
    · rw [if_pos (by decide)]
      repeat' first
        | refine WpA.seq ?_
        | refine WpA.region ?_
        | refine WpOps.op _ rfl rfl rfl rfl rfl ?_
        | refine WpOps.alloc _ rfl rfl rfl rfl rfl rfl ?_
        | refine WpOps.store rfl rfl rfl rfl rfl rfl rfl rfl rfl rfl ?_
        | (refine WpOps.call rfl rfl rfl rfl rfl (by exact hP _) ?_; rintro _ _ ⟨rfl, rfl⟩)
        | (refine WpOps.call rfl rfl rfl rfl rfl (by exact hQ _) ?_; rintro _ _ ⟨rfl, rfl⟩)
        | refine WpOps.nil ?_
        | refine WpA.ret ?_
        | refine WpA.condT rfl ?_
      exact retK.ok rfl rfl rfl (with_bd _ _)
  · rw [if_pos (by simp)]
    repeat' first
      | refine WpA.seq ?_
      | refine WpA.region ?_
      | refine WpOps.op _ rfl rfl rfl rfl rfl ?_
      | refine WpOps.alloc _ rfl rfl rfl rfl rfl rfl ?_
      | refine WpOps.store rfl rfl rfl rfl rfl rfl rfl rfl rfl rfl ?_
      | refine WpOps.skip rfl rfl rfl ?_
      | (refine WpOps.call rfl rfl rfl rfl rfl (by exact hP _) ?_; rintro _ _ ⟨rfl, rfl⟩)
      | (refine WpOps.call rfl rfl rfl rfl rfl (by exact hQ _) ?_; rintro _ _ ⟨rfl, rfl⟩)
      | refine WpOps.nil ?_
      | refine WpA.ret ?_
      | refine WpA.condT rfl ?_
    exact retK.ok rfl rfl rfl (with_bd _ _)
end Go.Gp.Tryz

/- Addresses: the walks. -/
namespace Go.Gp.Tryz
variable [Inhabited MaxLenT]
open Go.Proofs
set_option linter.unusedVariables false
set_option linter.unusedSimpArgs false
set_option linter.unusedSectionVars false
set_option maxHeartbeats 4000000

structure Ad where
  hi : Nat
  lo : Nat
def Ad.cells (a : Ad) : List AV := [.int .u64 (a.hi : Int), .int .u64 (a.lo : Int)]
def Ad.ok (a : Ad) : Prop := a.hi < 18446744073709551616 ∧ a.lo < 18446744073709551616
def Ad.val (a : Ad) : Nat := a.hi * 18446744073709551616 + a.lo
def cmpI (x y : Int) : Int := if x < y then -1 else if y < x then 1 else 0
def cmpAd (a b : Ad) : Int := if cmpI a.hi b.hi ≠ 0 then cmpI a.hi b.hi else cmpI a.lo b.lo
def okAdI (fam h l : Int) : Bool := fam == 6 || (fam == 4 && h == 0 && decide (l < 4294967296))
def okAd (fam : Int) (a : Ad) : Bool := okAdI fam a.hi a.lo
theorem cmpAd_val {a b : Ad} (ha : a.ok) (hb : b.ok) : cmpAd a b = cmpI a.val b.val := by
  obtain ⟨a1, a2⟩ := ha
  obtain ⟨b1, b2⟩ := hb
  unfold cmpAd cmpI Ad.val
  split <;> split <;> (try split) <;> (try split) <;> first | rfl | omega
theorem key81 : KeyT Tryz.E 81 := ⟨by kernel_rfl, by kernel_rfl⟩

theorem isNaN_A (x : Int) (H : List AObj) : CallsA E 139 [.int .u64 x] H (Is H (.bool false)) := by
  refine .enter Tryz.func139 rfl rfl rfl 6 Tryz.ntmps139 (Nat.le_of_ble_eq_true rfl) ?_
  repeat' first
    | refine WpA.seq ?_
    | refine WpA.region ?_
    | refine WpOps.op _ rfl rfl rfl rfl rfl ?_
    | refine WpOps.nil ?_
    | refine WpA.ret ?_
  all_goals (refine retK.ok rfl rfl (congrArg AV.bool ?_) .bool; simp)
theorem cmpU_A (x y : Int) (H : List AObj) : CallsA E 120 [.int .u64 x, .int .u64 y] H (Is H (.int .i64 (cmpI x y))) := by
  refine .enter Tryz.func120 rfl rfl rfl 20 Tryz.ntmps120 (Nat.le_of_ble_eq_true rfl) ?_
  repeat' first
    | refine WpA.seq ?_
    | refine WpA.region ?_
    | refine WpOps.op _ rfl rfl rfl rfl rfl ?_
    | (refine WpOps.call rfl rfl rfl rfl rfl (by exact isNaN_A _ _) ?_; rintro _ _ ⟨rfl, rfl⟩)
    | refine WpOps.nil ?_
    | refine WpA.ret ?_
    | refine WpA.skip ?_
    | refine WpA.condF rfl ?_
    | refine WpA.cond _ rfl (fun h => ?_) (fun h => ?_)
  all_goals (refine retK.ok rfl rfl (congrArg (AV.int .i64) ?_) .int; simp at *; unfold cmpI; split <;> (try split) <;> omega)
theorem cmpAd_A (a b : Ad) (H : List AObj) : CallsA E 100 [.agg a.cells, .agg b.cells] H (Is H (.int .i64 (cmpAd a b))) := by
  refine .enter Tryz.func100 rfl rfl rfl 19 Tryz.ntmps100 (Nat.le_of_ble_eq_true rfl) ?_
  obtain ⟨ah, al⟩ := a
  obtain ⟨bh, bl⟩ := b
  repeat' first
    | refine WpA.seq ?_
    | refine WpA.region ?_
    | refine WpOps.op _ rfl rfl rfl rfl rfl ?_
    | refine WpOps.box _ rfl rfl rfl rfl rfl ?_
    | (refine WpOps.call rfl rfl rfl rfl rfl (by exact cmpU_A _ _ _) ?_; rintro _ _ ⟨rfl, rfl⟩)
    | refine WpOps.nil ?_
    | refine WpA.ret ?_
    | refine WpA.skip ?_
    | refine WpA.cond _ rfl (fun h => ?_) (fun h => ?_)
  all_goals (refine retK.ok rfl rfl (congrArg (AV.int .i64) ?_) .int; simp at h; simp [cmpAd, h])
theorem checkAddr_A (fam : Int) (a : Ad) (H : List AObj) : CallsA E 118 [.int .u8 fam, .agg a.cells] H (Is H (.bool (okAd fam a))) := by
  obtain ⟨ah, al⟩ := a
  simp only [okAd, Ad.cells]
  generalize (ah : Int) = ah
  generalize (al : Int) = al
  refine .enter Tryz.func118 rfl rfl rfl 21 Tryz.ntmps118 (Nat.le_of_ble_eq_true rfl) ?_
  repeat' first
    | refine WpA.seq ?_
    | refine WpA.region ?_
    | refine WpOps.op _ rfl rfl rfl rfl rfl ?_
    | refine WpOps.box _ rfl rfl rfl rfl rfl ?_
    | refine WpOps.skip rfl rfl rfl ?_
    | refine WpOps.gsplit _ rfl rfl rfl (fun h => ?_) (fun h => ?_)
    | refine WpOps.nil ?_
    | refine WpA.ret ?_
  · have hk : okAdI fam ah al = true := by rw [okAdI, h]; rfl
    rw [hk]
    exact retK.ok rfl rfl rfl .bool
  · rename_i h1 h2
    have h3 : (ah == 0) = true := h
    by_cases hl : al < 4294967296
    · have hk : okAdI fam ah al = true := by rw [okAdI, h1, h2, h3, decide_eq_true hl]; rfl
      rw [hk]
      refine retK.ok rfl rfl (congrArg AV.bool ?_) .bool
      rw [decide_eq_true hl]
      rfl
    · have hk : okAdI fam ah al = false := by rw [okAdI, h1, h2, h3, decide_eq_false hl]; rfl
      rw [hk]
      refine retK.ok rfl rfl (congrArg AV.bool ?_) .bool
      rw [decide_eq_false hl]
      rfl
  · rename_i h1 h2
    have h3 : (ah == 0) = false := h
    have hk : okAdI fam ah al = false := by rw [okAdI, h1, h2, h3]; rfl
    rw [hk]
    exact retK.ok rfl rfl rfl .bool
  · rename_i h1
    have hk : okAdI fam ah al = false := by rw [okAdI, h1, h]; rfl
    rw [hk]
    exact retK.ok rfl rfl rfl .bool
theorem refCheckAddr_A (fam : Int) (a : Ad) (H : List AObj) : CallsA E 86 [.int .u8 fam, .agg a.cells] H (Is H (.bool (okAd fam a))) := by
  obtain ⟨ah, al⟩ := a
  simp only [okAd, Ad.cells]
  generalize (ah : Int) = ah
  generalize (al : Int) = al
  refine .enter Tryz.func86 rfl rfl rfl 17 Tryz.ntmps86 (Nat.le_of_ble_eq_true rfl) ?_
  have h46 : (fam == 4) = true → (fam == 6) = false := fun h => by
    have : fam = 4 := by simpa using h
    subst this; rfl
  repeat' first
    | refine WpA.seq ?_
    | refine WpA.region ?_
    | refine WpOps.op _ rfl rfl rfl rfl rfl ?_
    | refine WpOps.box _ rfl rfl rfl rfl rfl ?_
    | refine WpOps.skip rfl rfl rfl ?_
    | refine WpOps.gsplit _ rfl rfl rfl (fun h => ?_) (fun h => ?_)
    | refine WpOps.nil ?_
    | refine WpA.ret ?_
    | refine WpA.skip ?_
    | refine WpA.cond _ rfl (fun h => ?_) (fun h => ?_)
  · rename_i h1
    have h3 : (ah == 0) = true := h
    by_cases hl : al ≤ 4294967295
    · have hk : okAdI fam ah al = true := by rw [okAdI, h46 h1, h1, h3, decide_eq_true (show al < 4294967296 by omega)]; rfl
      rw [hk]
      exact retK.ok rfl rfl (congrArg AV.bool (decide_eq_true hl)) .bool
    · have hk : okAdI fam ah al = false := by rw [okAdI, h46 h1, h1, h3, decide_eq_false (show ¬ al < 4294967296 by omega)]; rfl
      rw [hk]
      exact retK.ok rfl rfl (congrArg AV.bool (decide_eq_false hl)) .bool
  · rename_i h1
    have h3 : (ah == 0) = false := h
    have hk : okAdI fam ah al = false := by rw [okAdI, h46 h1, h1, h3]; rfl
    rw [hk]
    exact retK.ok rfl rfl rfl .bool
  · have hk : okAdI fam ah al = (fam == 6) := by rw [okAdI, h]; simp only [Bool.false_and, Bool.or_false]
    rw [hk]
    exact retK.ok rfl rfl rfl .bool
theorem eqAd (a b : Ad) : EqS E (.inl 81) [.agg a.cells] [.agg b.cells] ((a.hi : Int) == b.hi && ((a.lo : Int) == b.lo && true)) :=
  .struct rfl (.cons rfl rfl rfl (.int rfl) (.cons rfl rfl rfl (.int rfl) .nil))
theorem refCmp_A (a b : Ad) (H : List AObj) : CallsA E 66 [.agg a.cells, .agg b.cells] H (Is H (.int .i64 (cmpAd a b))) := by
  refine .enter Tryz.func66 rfl rfl rfl 29 Tryz.ntmps66 (Nat.le_of_ble_eq_true rfl) ?_
  obtain ⟨ah, al⟩ := a
  obtain ⟨bh, bl⟩ := b
  have heq := eqAd ⟨ah, al⟩ ⟨bh, bl⟩
  repeat' first
    | (refine WpOps.eqA rfl rfl rfl rfl rfl rfl key81 (by exact heq) ?_)
    | refine WpA.seq ?_
    | refine WpA.region ?_
    | refine WpOps.op _ rfl rfl rfl rfl rfl ?_
    | refine WpOps.box _ rfl rfl rfl rfl rfl ?_
    | refine WpOps.skip rfl rfl rfl ?_
    | refine WpOps.gsplit _ rfl rfl rfl (fun h => ?_) (fun h => ?_)
    | refine WpA.block ?_
    | refine WpOps.nil ?_
    | refine WpA.ret ?_
    | refine WpA.skip ?_
    | refine WpA.condT rfl ?_
    | refine WpA.condF rfl ?_
    | refine WpA.cond _ rfl (fun h => ?_) (fun h => ?_)
  all_goals (refine retK.ok rfl rfl (congrArg (AV.int .i64) ?_) .int; unfold cmpAd cmpI; dsimp only; simp at *; repeat' split; all_goals omega)
def wid (fam : Int) : Int := if fam = 4 then 32 else if fam = 6 then 128 else 0
theorem width_A (fam : Int) (H : List AObj) : CallsA E 111 [.int .u8 fam] H (Is H (.int .i64 (wid fam))) := by
  refine .enter Tryz.func111 rfl rfl rfl 7 Tryz.ntmps111 (Nat.le_of_ble_eq_true rfl) ?_
  repeat' first
    | refine WpA.seq ?_
    | refine WpA.region ?_
    | refine WpOps.op _ rfl rfl rfl rfl rfl ?_
    | refine WpOps.nil ?_
    | refine WpA.ret ?_
    | refine WpA.skip ?_
    | refine WpA.cond _ rfl (fun h => ?_) (fun h => ?_)
  all_goals (refine retK.ok rfl rfl (congrArg (AV.int .i64) ?_) .int; simp at *; simp [wid, *])
theorem power_A (n : Nat) (H : List AObj) (hn : n ≤ 63) : CallsA E 112 [.int .i64 (n : Nat)] H (Is H (.int .u64 ((2 ^ n : Nat) : Int))) := by
  refine .enter Tryz.func112 rfl rfl rfl 14 Tryz.ntmps112 (Nat.le_of_ble_eq_true rfl) ?_
  repeat' first
    | refine WpA.seq ?_
    | refine WpA.region ?_
    | refine WpOps.op _ rfl rfl rfl rfl rfl ?_
    | refine WpA.block ?_
    | refine WpOps.nil ?_
  refine WpA.loopS (α := Nat) (fun i => [(0, .int .i64 (n : Nat)), (3, .int .u64 ((2 ^ i : Nat) : Int)), (4, .int .i64 (i : Nat))]) (fun _ => H ++ []) (fun i => i ≤ n) (fun i => n - i) 0 (Nat.zero_le _) ⟨rfl, rfl, rfl, trivial⟩ rfl (fun i hi => ?_)
  by_cases hlt : i < n
  · have hl : decide (((i : Nat) : Int) < ((n : Nat) : Int)) = true := decide_eq_true (by omega)
    have hp : 2 ^ (i + 1) ≤ 2 ^ 63 := Nat.pow_le_pow_right (by decide) (by omega)
    have hp2 : 2 ^ (i + 1) = 2 ^ i + 2 ^ i := by rw [Nat.pow_succ]; omega
    have hw : IntKind.u64.wrap (((2 ^ i : Nat) : Int) + ((2 ^ i : Nat) : Int)) = ((2 ^ (i + 1) : Nat) : Int) := by
      rw [hp2] at hp ⊢
      obtain ⟨p, hpp⟩ : ∃ p, p = 2 ^ i := ⟨_, rfl⟩
      rw [← hpp] at hp ⊢
      rw [wrapu64 (by omega) (by omega)]
      omega
    repeat' first
      | refine WpA.condT (congrArg AV.bool hl) ?_
      | refine WpA.seq ?_
      | refine WpA.region ?_
      | refine WpOps.op _ rfl rfl rfl rfl rfl ?_
      | refine WpA.block ?_
      | refine WpOps.nil ?_
      | refine WpA.skip ?_
    refine ⟨i + 1, hlt, by omega, ⟨rfl, congrArg (AV.int .u64) hw, congrArg (AV.int .i64) (wrap64 (by omega) (by omega)), trivial⟩, rfl⟩
  · have hl : decide (((i : Nat) : Int) < ((n : Nat) : Int)) = false := decide_eq_false (by omega)
    have : i = n := by omega
    subst this
    repeat' first
      | refine WpA.condF (congrArg AV.bool hl) ?_
      | refine WpA.seq ?_
      | refine WpA.region ?_
      | refine WpOps.op _ rfl rfl rfl rfl rfl ?_
      | refine WpA.exit ?_
      | refine WpOps.nil ?_
      | refine WpA.ret ?_
    exact retK.ok rfl rfl rfl .int
end Go.Gp.Tryz
