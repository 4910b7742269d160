/- Part of a proof: GhQ16, GhQ33, GhQ34, GhQ35, GhQ36 -/
import Derived.Test.YtlmjiblfmhaicaaGreatDoorK14
import Derived.Test.YtlmjiblfmhaicaaGreatDoorK18
import Derived.Test.YtlmjiblfmhaicaaGreatDoorK25
import Derived.Test.YtlmjiblfmhaicaaGreatDoorK26

set_option linter.unusedSectionVars false

/- The reference of resources: Same. -/
namespace Go.Gp.Tryz
variable [Inhabited MaxLenT]
open Go.Proofs
set_option linter.unusedVariables false
set_option linter.unusedSimpArgs false
set_option linter.unusedSectionVars false
set_option maxHeartbeats 4000000

def eqAdB (a b : Ad) : Bool := (a.hi : Int) == b.hi && ((a.lo : Int) == b.lo && true)
def eqSpB (s t : Sp) : Bool := eqAdB s.f t.f && (eqAdB s.t t.t && true)
theorem key83 : KeyT Tryz.E 83 := ⟨by kernel_rfl, by kernel_rfl⟩
theorem eqSp (s t : Sp) : EqS E (.inl 83) [.agg s.cells] [.agg t.cells] (eqSpB s t) :=
  .struct rfl (.cons rfl rfl rfl (eqAd s.f t.f) (.cons rfl rfl rfl (eqAd s.t t.t) .nil))
def sameAt (l m : List Sp) (i : Nat) : Bool := match l[i]?, m[i]? with | some x, some y => eqSpB x y | _, _ => false
def sameL (l m : List Sp) : Bool := decide (l.length = m.length) && (List.range l.length).all (sameAt l m)
def sameR (r q : Res) : Bool := sameL r.v4 q.v4 && (sameL r.v6 q.v6 && sameL r.asw q.asw)
theorem sameL_len {l m : List Sp} (h : l.length ≠ m.length) : sameL l m = false := by rw [sameL, decide_eq_false h]; rfl
theorem sameL_false {l m : List Sp} {i : Nat} (hi : i < l.length) (h : sameAt l m i = false) : sameL l m = false := by
  cases e : (List.range l.length).all (sameAt l m) with
  | false => rw [sameL, e, Bool.and_false]
  | true =>
    have := List.all_eq_true.1 e i (List.mem_range.2 hi)
    rw [h] at this
    cases this
theorem sameL_true {l m : List Sp} (hl : l.length = m.length) (h : ∀ j, j < l.length → sameAt l m j = true) : sameL l m = true := by
  rw [sameL, decide_eq_true hl, List.all_eq_true.2 fun j hj => h j (List.mem_range.1 hj)]; rfl
theorem sameR_false {r q : Res} {k : Nat} (hk : k < 3) (h : sameL (selR r k) (selR q k) = false) : sameR r q = false := by
  match k, hk with
  | 0, _ => (have e : sameL r.v4 q.v4 = false := h); rw [sameR, e]; rfl
  | 1, _ => (have e : sameL r.v6 q.v6 = false := h); rw [sameR, e, Bool.false_and, Bool.and_false]
  | 2, _ => (have e : sameL r.asw q.asw = false := h); rw [sameR, e, Bool.and_false, Bool.and_false]
theorem sameR_true {r q : Res} (h : ∀ j, j < 3 → sameL (selR r j) (selR q j) = true) : sameR r q = true := by
  have b0 : sameL r.v4 q.v4 = true := h 0 (by decide)
  have b1 : sameL r.v6 q.v6 = true := h 1 (by decide)
  have b2 : sameL r.asw q.asw = true := h 2 (by decide)
  rw [sameR, b0, b1, b2]; rfl
theorem refSame_A (r q : Res) (H : List AObj) (hs : r.small) (ho : r.ok) (hs2 : q.small) (ho2 : q.ok) : CallsA E 23 [.agg r.cells, .agg q.cells] H (Is H (.bool (sameR r q))) := by
  have hL : ∀ X, CallsA E 50 [.agg r.cells] X (Is X (.tup [.sl .no 1 (rows3 r), .sl .no 1 fams3])) := fun X => lists_A r X hs ho
  have hL2 : ∀ X, CallsA E 50 [.agg q.cells] X (Is X (.tup [.sl .no 1 (rows3 q), .sl .no 1 fams3])) := fun X => lists_A q X hs2 ho2
  have hrf := fun k hk => sameR_false (r := r) (q := q) (k := k) hk
  have hrt := sameR_true (r := r) (q := q)
  generalize sameR r q = R at *
  refine .enter Tryz.func23 rfl rfl rfl 60 Tryz.ntmps23 (Nat.le_of_ble_eq_true rfl) ?_
  repeat' first
    | refine WpA.seq ?_
    | refine WpA.region ?_
    | refine WpOps.op _ rfl rfl rfl rfl rfl ?_
    | refine WpOps.box _ rfl rfl rfl rfl rfl ?_
    | (refine WpOps.call rfl rfl rfl rfl rfl (by exact hL _) ?_; rintro _ _ ⟨rfl, rfl⟩)
    | (refine WpOps.call rfl rfl rfl rfl rfl (by exact hL2 _) ?_; rintro _ _ ⟨rfl, rfl⟩)
    | refine WpA.block ?_
    | refine WpOps.nil ?_
  refine WpA.loopS (α := Nat) (fun k => [(5, .sl .no 1 (rows3 r)), (7, .sl .no 1 (rows3 q)), (9, .int .i64 (k : Nat))]) (fun _ => H ++ [.cells r.cells, .cells q.cells]) (fun k => k ≤ 3 ∧ ∀ j, j < k → sameL (selR r j) (selR q j) = true) (fun k => 3 - k) 0 ⟨by omega, by omega⟩ ⟨rfl, rfl, rfl, trivial⟩ rfl (fun k hk => ?_)
  obtain ⟨hk1, hk2⟩ := hk
  by_cases hk3 : k < 3
  · have hd : decide (((k : Nat) : Int) < 3) = true := decide_eq_true (by omega)
    have hg := rows3_get (r := r) hk3
    have hg' := rows3_get (r := q) hk3
    have hsl := spRows_len (selR r k)
    have hsl' := spRows_len (selR q k)
    have hsm := sel_small hs k
    have hbad := hrf k hk3
    by_cases hlen : (selR r k).length = (selR q k).length
    · have hd2 : ((((spRows (selR r k)).length : Nat) : Int) != (((spRows (selR q k)).length : Nat) : Int)) = false := by rw [hsl, hsl', hlen]; simp
      repeat' first
        | refine WpA.condT (congrArg AV.bool hd) ?_
        | refine WpA.condF (congrArg AV.bool hd2) ?_
        | (refine LexA.elem _ rfl rfl rfl rfl rfl rfl rfl rfl rfl (Int.natCast_nonneg k) hg ?_)
        | (refine LexA.elem _ rfl rfl rfl rfl rfl rfl rfl rfl rfl (Int.natCast_nonneg k) hg' ?_)
        | refine WpA.seq ?_
        | refine WpA.region ?_
        | refine WpOps.op _ rfl rfl rfl rfl rfl ?_
        | refine WpA.block ?_
        | refine WpOps.nil ?_
        | refine WpA.skip ?_
        | refine WpA.draw (by kernel_rfl) ?_
        | refine LexA.op _ rfl rfl rfl rfl rfl ?_
        | refine LexA.nil ?_
      refine WpA.loopS (α := Nat) (fun i => [(5, .sl .no 1 (rows3 r)), (7, .sl .no 1 (rows3 q)), (9, .int .i64 (k : Nat)), (10, .int .i64 (i : Nat))]) (fun _ => H ++ [.cells r.cells, .cells q.cells]) (fun i => i ≤ (selR r k).length ∧ ∀ j, j < i → sameAt (selR r k) (selR q k) j = true) (fun i => (selR r k).length - i) 0 ⟨Nat.zero_le _, by omega⟩ ⟨rfl, rfl, rfl, rfl, trivial⟩ rfl (fun i hi => ?_)
      obtain ⟨hi1, hi2⟩ := hi
      by_cases hlt : i < (selR r k).length
      · have hd3 : decide (((i : Nat) : Int) < (((spRows (selR r k)).length : Nat) : Int)) = true := decide_eq_true (by rw [hsl]; omega)
        have hgi := spRows_get hlt
        have hgi' := spRows_get (l := selR q k) (i := i) (by omega)
        have hat : sameAt (selR r k) (selR q k) i = eqSpB (selR r k)[i] ((selR q k)[i]'(by omega)) := by
          rw [sameAt, List.getElem?_eq_getElem hlt, List.getElem?_eq_getElem (show i < (selR q k).length by omega)]
        obtain ⟨x, hx⟩ : ∃ x, (selR r k)[i] = x := ⟨_, rfl⟩
        obtain ⟨y, hy⟩ : ∃ y, (selR q k)[i]'(by omega) = y := ⟨_, rfl⟩
        rw [hx] at hgi hat
        rw [hy] at hgi' hat
        have heq := eqSp x y
        rw [← hat] at heq
        clear hat
        cases hb : sameAt (selR r k) (selR q k) i with
        | false =>
          rw [hb] at heq
          rw [hbad (sameL_false hlt hb)]
          repeat' first
            | refine WpA.condT (congrArg AV.bool hd3) ?_
            | (refine WpOps.elem _ rfl rfl rfl rfl rfl rfl rfl rfl rfl (Int.natCast_nonneg k) hg ?_)
            | (refine LexA.elem _ rfl rfl rfl rfl rfl rfl rfl rfl rfl (Int.natCast_nonneg k) hg ?_)
            | (refine LexA.elem _ rfl rfl rfl rfl rfl rfl rfl rfl rfl (Int.natCast_nonneg k) hg' ?_)
            | (refine LexA.elem _ rfl rfl rfl rfl rfl rfl rfl rfl rfl (Int.natCast_nonneg i) hgi ?_)
            | (refine LexA.elem _ rfl rfl rfl rfl rfl rfl rfl rfl rfl (Int.natCast_nonneg i) hgi' ?_)
            | (refine LexA.neA rfl rfl rfl rfl rfl rfl key83 (by exact heq) ?_)
            | refine WpA.seq ?_
            | refine WpA.region ?_
            | refine WpOps.op _ rfl rfl rfl rfl rfl ?_
            | refine WpA.block ?_
            | refine WpOps.nil ?_
            | refine WpA.ret ?_
            | refine WpA.skip ?_
            | refine WpA.condT rfl ?_
            | refine WpA.draw (by kernel_rfl) ?_
            | refine LexA.op _ rfl rfl rfl rfl rfl ?_
            | refine LexA.nil ?_
          exact retK.ok rfl rfl rfl .bool
        | true =>
          rw [hb] at heq
          repeat' first
            | refine WpA.condT (congrArg AV.bool hd3) ?_
            | (refine WpOps.elem _ rfl rfl rfl rfl rfl rfl rfl rfl rfl (Int.natCast_nonneg k) hg ?_)
            | (refine LexA.elem _ rfl rfl rfl rfl rfl rfl rfl rfl rfl (Int.natCast_nonneg k) hg ?_)
            | (refine LexA.elem _ rfl rfl rfl rfl rfl rfl rfl rfl rfl (Int.natCast_nonneg k) hg' ?_)
            | (refine LexA.elem _ rfl rfl rfl rfl rfl rfl rfl rfl rfl (Int.natCast_nonneg i) hgi ?_)
            | (refine LexA.elem _ rfl rfl rfl rfl rfl rfl rfl rfl rfl (Int.natCast_nonneg i) hgi' ?_)
            | (refine LexA.neA rfl rfl rfl rfl rfl rfl key83 (by exact heq) ?_)
            | refine WpA.seq ?_
            | refine WpA.region ?_
            | refine WpOps.op _ rfl rfl rfl rfl rfl ?_
            | refine WpA.block ?_
            | refine WpOps.nil ?_
            | refine WpA.skip ?_
            | refine WpA.condF rfl ?_
            | refine WpA.draw (by kernel_rfl) ?_
            | refine LexA.op _ rfl rfl rfl rfl rfl ?_
            | refine LexA.nil ?_
          refine ⟨i + 1, ⟨hlt, fun j hj => ?_⟩, by omega, ⟨rfl, rfl, rfl, congrArg (AV.int .i64) (wrap64 (by omega) (by omega)), trivial⟩, rfl⟩
          rcases Nat.lt_or_ge j i with h | h
          · exact hi2 j h
          · have : j = i := by omega
            subst this
            exact hb
      · have hd3 : decide (((i : Nat) : Int) < (((spRows (selR r k)).length : Nat) : Int)) = false := decide_eq_false (by rw [hsl]; omega)
        have hgood : sameL (selR r k) (selR q k) = true := sameL_true hlen fun j hj => hi2 j (by omega)
        repeat' first
          | refine WpA.condF (congrArg AV.bool hd3) ?_
          | (refine WpOps.elem _ rfl rfl rfl rfl rfl rfl rfl rfl rfl (Int.natCast_nonneg k) hg ?_)
          | refine WpA.seq ?_
          | refine WpA.region ?_
          | refine WpOps.op _ rfl rfl rfl rfl rfl ?_
          | refine WpA.exit ?_
          | refine WpOps.nil ?_
        refine ⟨k + 1, ⟨by omega, fun j hj => ?_⟩, by omega, ⟨rfl, rfl, congrArg (AV.int .i64) (wrap64 (by omega) (by omega)), trivial⟩, rfl⟩
        rcases Nat.lt_or_ge j k with h | h
        · exact hk2 j h
        · have : j = k := by omega
          subst this; exact hgood
    · have hd2 : ((((spRows (selR r k)).length : Nat) : Int) != (((spRows (selR q k)).length : Nat) : Int)) = true := by rw [hsl, hsl']; simp; omega
      rw [hbad (sameL_len hlen)]
      repeat' first
        | refine WpA.condT (congrArg AV.bool hd) ?_
        | refine WpA.condT (congrArg AV.bool hd2) ?_
        | (refine LexA.elem _ rfl rfl rfl rfl rfl rfl rfl rfl rfl (Int.natCast_nonneg k) hg ?_)
        | (refine LexA.elem _ rfl rfl rfl rfl rfl rfl rfl rfl rfl (Int.natCast_nonneg k) hg' ?_)
        | refine WpA.seq ?_
        | refine WpA.region ?_
        | refine WpOps.op _ rfl rfl rfl rfl rfl ?_
        | refine WpA.block ?_
        | refine WpOps.nil ?_
        | refine WpA.ret ?_
        | refine WpA.skip ?_
        | refine WpA.draw (by kernel_rfl) ?_
        | refine LexA.op _ rfl rfl rfl rfl rfl ?_
        | refine LexA.nil ?_
      exact retK.ok rfl rfl rfl .bool
  · have hd : decide (((k : Nat) : Int) < 3) = false := decide_eq_false (by omega)
    rw [hrt (fun j hj => hk2 j (by omega))]
    repeat' first
      | refine WpA.condF (congrArg AV.bool hd) ?_
      | refine WpA.seq ?_
      | refine WpA.region ?_
      | refine WpOps.op _ rfl rfl rfl rfl rfl ?_
      | refine WpA.exit ?_
      | refine WpOps.nil ?_
      | refine WpA.ret ?_
    exact retK.ok rfl rfl rfl .bool
end Go.Gp.Tryz

/- Certificates: the reference's Check. -/
namespace Go.Gp.Tryz
variable [Inhabited MaxLenT]
open Go.Proofs
set_option linter.unusedVariables false
set_option linter.unusedSimpArgs false
set_option linter.unusedSectionVars false
set_option maxHeartbeats 4000000

theorem sameL_nil (l : List Sp) : sameL l [] = decide (l.length = 0) := by
  unfold sameL
  cases l with
  | nil => rfl
  | cons a l => simp
theorem sameR_empty (r : Res) : sameR r ⟨[], [], []⟩ = emptyR r := by
  unfold sameR emptyR
  have : (⟨[], [], []⟩ : Res).asw = [] := rfl
  rw [this, sameL_nil, sameL_nil, sameL_nil, spRows_len, spRows_len, asRows_len]
  have e : r.asw.length = r.sy.length := by rw [Res.asw, List.length_map]
  rw [e, Bool.eq_iff_iff]
  simp only [Bool.and_eq_true, decide_eq_true_eq]
  omega
theorem goodSig_A (idx : Int) (ch pa : List (List AV)) (H : List AObj) : CallsA E 44 [.agg (sigC idx ch pa)] H (Is H (.bool (emptySig idx ch pa || (sigE pa.length idx ch.length pa.length == 0)))) := by
  have c1 := fun X => signed_A idx ch pa X
  have c2 := fun X => refSigCheck_A pa.length idx ch pa X
  unfold sigC at c1 c2 ⊢
  generalize emptySig idx ch pa = es at *
  generalize sigE pa.length idx ch.length pa.length = se at *
  refine .enter Tryz.func44 rfl rfl rfl 14 Tryz.ntmps44 (Nat.le_of_ble_eq_true rfl) ?_
  repeat' first
    | refine WpA.seq ?_
    | refine WpA.region ?_
    | refine WpOps.op _ rfl rfl rfl rfl rfl ?_
    | refine WpOps.box _ rfl rfl rfl rfl rfl ?_
    | refine WpOps.skip rfl rfl rfl ?_
    | (refine WpOps.call rfl rfl rfl rfl rfl (by exact c1 _) ?_; rintro _ _ ⟨rfl, rfl⟩)
    | (refine WpOps.call rfl rfl rfl rfl rfl (by exact c2 _) ?_; rintro _ _ ⟨rfl, rfl⟩)
    | refine WpOps.gsplit _ rfl rfl rfl (fun h => ?_) (fun h => ?_)
    | refine WpOps.nil ?_
    | refine WpA.ret ?_
  all_goals
    refine retK.ok rfl rfl (congrArg AV.bool ?_) .bool
    clear c1 c2
    simp_all
theorem refCertCheck_A (c : Crt) (H : List AObj) (hc : c.sm) : CallsA E 19 [.agg c.cells] H (Is H (.int .i64 (certE c))) := by
  have c1 : ∀ X, CallsA E 39 [.agg [.sl .no 4 (spRows c.res.v4), .sl .no 4 (spRows c.res.v6), .sl .no 2 (asRows c.res.sy)]] X (Is X (.int .i64 (resE c.res))) := fun X => refResCheck_A c.res X hc.rs hc.ro
  have c2 : ∀ X, CallsA E 23 [.agg [.sl .no 4 (spRows c.res.v4), .sl .no 4 (spRows c.res.v6), .sl .no 2 (asRows c.res.sy)], .agg [.sl .full 0 [], .sl .full 0 [], .sl .full 0 []]] X (Is X (.bool (emptyR c.res))) := fun X => by
    have := refSame_A c.res ⟨[], [], []⟩ X hc.rs hc.ro ⟨by simp, by simp, by simp⟩ ⟨by simp, by simp, by simp⟩
    rw [sameR_empty] at this
    exact CallsA.subL (vs := [.agg (Res.cells c.res), .agg (Res.cells ⟨[], [], []⟩)]) ⟨Sub.refl _, Sub.agg (vs := [.sl .no 4 [], .sl .no 4 [], .sl .no 2 []]) ⟨Sub.empty, Sub.empty, Sub.empty, trivial⟩, trivial⟩ this
  have c3 := fun X => refName1_A c.issuer X
  have c4 := fun X => refName1_A c.subject X
  have c5 := fun X => refWinCheck_A c.f c.t X
  have c6 := fun X => refPlace_A c.repo true X (by have := hc.repo; omega)
  have c7 := fun X => refPlace_A c.man false X (by have := hc.man; omega)
  have c8 := fun X => refPlace_A c.crl false X (by have := hc.crl; omega)
  have c9 := fun X => refPlace_A c.parent false X (by have := hc.parent; omega)
  have c10 := fun X => refSecure_A c.notify X (by have := hc.notify; omega)
  have c11 := fun X => goodSig_A c.idx c.ch c.pa X
  have f1 : (fun l : Loc => l.dir == true) = Loc.dir := by funext l; cases l.dir <;> rfl
  have f2 : (fun l : Loc => l.dir == false) = isFileL := by funext l; unfold isFileL; cases l.dir <;> rfl
  rw [f1] at c6
  rw [f2] at c7 c8 c9
  have e1 : okA1 c = !(!(resE c.res == 0) || (c.serial == 0) || !name1 c.issuer || !name1 c.subject || !(winCode c.f c.t == 0)) := by
    have h0 := hc.s0
    have hs : decide (c.serial > 0) = !(c.serial == 0) := by
      rw [Bool.eq_iff_iff]; simp; omega
    unfold okA1
    rw [hs]
    simp only [Bool.not_or, Bool.not_not]
  have e2 : okA2 c = (!(decide (c.height < 0) || decide (c.height > 4)) && (!c.inherit || emptyR c.res)) := by
    have h1 : decide (c.height ≥ 0) = !decide (c.height < 0) := by rw [Bool.eq_iff_iff]; simp
    have h2 : decide (c.height ≤ 4) = !decide (c.height > 4) := by rw [Bool.eq_iff_iff]; simp
    unfold okA2
    rw [h1, h2]
    simp only [Bool.not_or]
  have e3 : okA3 c = (placeE c.repo Loc.dir && placeE c.man isFileL && placeE c.crl isFileL && placeE c.parent isFileL) := rfl
  have e4 : okA4 c = placeE c.notify secL := rfl
  have e5 : okSig c = (emptySig c.idx c.ch c.pa || (sigE c.pa.length c.idx c.ch.length c.pa.length == 0)) := rfl
  have e6 : certE c = if resE c.res = 4 then 4 else if (okA1 c && okA2 c && okA3 c && okA4 c && okSig c) = true then 0 else 8 := rfl
  rw [← e5] at c11
  unfold sigC at c11
  rw [e6, e1, e2, e3, e4]
  clear e6 hc e1 e2 e3 e4 e5 f1 f2
  generalize hC : c.cells = cs at *
  generalize okSig c = k5 at *
  generalize resE c.res = re at *
  generalize emptyR c.res = er at *
  generalize name1 c.issuer = n1 at *
  generalize name1 c.subject = n2 at *
  generalize winCode c.f c.t = wc at *
  generalize placeE c.repo Loc.dir = p1 at *
  generalize placeE c.man isFileL = p2 at *
  generalize placeE c.crl isFileL = p3 at *
  generalize placeE c.parent isFileL = p4 at *
  generalize placeE c.notify secL = p5 at *
  obtain ⟨serial, issuer, subject, f, t, rt, height, ca, inherit, ⟨v4, v6, sy⟩, repo, man, notify, crl, parent, idx, ch, pa⟩ := c
  dsimp only at *
  refine .enter Tryz.func19 rfl rfl rfl 89 Tryz.ntmps19 (Nat.le_of_ble_eq_true rfl) ?_
  subst hC
  refine WpA.seq ?_
  repeat' first
    | refine WpA.region ?_
    | refine WpOps.op _ rfl rfl rfl rfl rfl ?_
    | refine WpOps.box _ rfl rfl rfl rfl rfl ?_
    | refine WpOps.nil ?_
  refine WpA.cutS [(1, .ptr H.length 0 0), (3, .int .i64 re)] (H ++ [.cells (Crt.cells ⟨serial, issuer, subject, f, t, rt, height, ca, inherit, ⟨v4, v6, sy⟩, repo, man, notify, crl, parent, idx, ch, pa⟩)]) ?_ ?_
  · repeat' first
      | refine WpA.region ?_
      | refine WpOps.op _ rfl rfl rfl rfl rfl ?_
      | (refine WpOps.call rfl rfl rfl rfl rfl (by exact c1 _) ?_; rintro _ _ ⟨rfl, rfl⟩)
      | refine WpOps.nil ?_
    exact ⟨rfl, ⟨rfl, rfl, trivial⟩, rfl⟩
  by_cases h4 : re = 4
  · have d4 : (re == 4) = true := by simpa using h4
    rw [if_pos h4]
    repeat' first
      | refine WpA.condT (congrArg AV.bool d4) ?_
      | refine WpA.seq ?_
      | refine WpA.region ?_
      | refine WpOps.op _ rfl rfl rfl rfl rfl ?_
      | refine WpOps.nil ?_
      | refine WpA.ret ?_
    exact retK.ok rfl rfl rfl .int
  have d4 : (re == 4) = false := by simpa using h4
  rw [if_neg h4]
  refine WpA.cutS [(1, .ptr H.length 0 0), (3, .int .i64 re)] (H ++ [.cells (Crt.cells ⟨serial, issuer, subject, f, t, rt, height, ca, inherit, ⟨v4, v6, sy⟩, repo, man, notify, crl, parent, idx, ch, pa⟩)]) ?_ ?_
  · repeat' first
      | refine WpA.condF (congrArg AV.bool d4) ?_
      | refine WpA.seq ?_
      | refine WpA.region ?_
      | refine WpOps.op _ rfl rfl rfl rfl rfl ?_
      | refine WpOps.nil ?_
      | refine WpA.skip ?_
    exact ⟨rfl, ⟨rfl, rfl, trivial⟩, rfl⟩
  refine WpA.seq ?_
  refine WpA.cutS [(1, .ptr H.length 0 0), (45, .bool (!(!(!(re == 0) || (serial == 0) || !n1 || !n2 || !(wc == 0)) && !(decide (height < 0) || decide (height > 4)))))] (H ++ [.cells (Crt.cells ⟨serial, issuer, subject, f, t, rt, height, ca, inherit, ⟨v4, v6, sy⟩, repo, man, notify, crl, parent, idx, ch, pa⟩)]) ?_ ?_
  · repeat' first
      | refine WpA.region ?_
      | refine WpOps.op _ rfl rfl rfl rfl rfl ?_
      | refine WpOps.skip rfl rfl rfl ?_
      | (refine WpOps.call rfl rfl rfl rfl rfl (by exact c3 _) ?_; rintro _ _ ⟨rfl, rfl⟩)
      | (refine WpOps.call rfl rfl rfl rfl rfl (by exact c4 _) ?_; rintro _ _ ⟨rfl, rfl⟩)
      | (refine WpOps.call rfl rfl rfl rfl rfl (by exact c5 _) ?_; rintro _ _ ⟨rfl, rfl⟩)
      | refine WpOps.gsplit _ rfl rfl rfl (fun h => ?_) (fun h => ?_)
      | refine WpOps.nil ?_
    all_goals
      refine ⟨rfl, ⟨rfl, congrArg AV.bool ?_, trivial⟩, rfl⟩
      clear c1 c2 c3 c4 c5 c6 c7 c8 c9 c10 c11
      clear h4 d4
      try simp only [bne] at *
      generalize (serial == 0) = s0 at *
      generalize (re == 0) = r0 at *
      generalize (wc == 0) = w0 at *
      generalize decide (height < 0) = h0 at *
      generalize decide (height > 4) = h5 at *
      simp_all
  generalize (!(!(re == 0) || (serial == 0) || !n1 || !n2 || !(wc == 0))) = k1 at *
  generalize (!(decide (height < 0) || decide (height > 4))) = k2 at *
  cases hk : (k1 && k2) with
  | false =>
    rw [if_neg (by
      cases k1 <;> cases k2 <;> simp_all)]
    repeat' first
      | refine WpA.seq ?_
      | refine WpA.region ?_
      | refine WpOps.op _ rfl rfl rfl rfl rfl ?_
      | refine WpOps.nil ?_
      | refine WpA.ret ?_
      | refine WpA.condT rfl ?_
    exact retK.ok rfl rfl rfl .int
  | true =>
    obtain ⟨rfl, rfl⟩ : k1 = true ∧ k2 = true := by simpa using hk
    refine WpA.joinS [(1, .ptr H.length 0 0)] (H ++ [.cells (Crt.cells ⟨serial, issuer, subject, f, t, rt, height, ca, inherit, ⟨v4, v6, sy⟩, repo, man, notify, crl, parent, idx, ch, pa⟩)]) ?_ ?_
    · repeat' first
        | refine WpA.skip ?_
        | refine WpA.condF rfl ?_
      exact ⟨⟨rfl, trivial⟩, rfl⟩
    rw [Bool.true_and, Bool.true_and]
    refine WpA.seq ?_
    refine WpA.cutS [(1, .ptr H.length 0 0), (54, .bool (inherit && !er))] (H ++ [.cells (Crt.cells ⟨serial, issuer, subject, f, t, rt, height, ca, inherit, ⟨v4, v6, sy⟩, repo, man, notify, crl, parent, idx, ch, pa⟩)]) ?_ ?_
    · repeat' first
        | refine WpA.region ?_
        | refine WpOps.op _ rfl rfl rfl rfl rfl ?_
        | refine WpOps.skip rfl rfl rfl ?_
        | refine WpOps.build _ rfl rfl rfl rfl rfl ?_
        | (refine WpOps.call rfl rfl rfl rfl rfl (by exact c2 _) ?_; rintro _ _ ⟨rfl, rfl⟩)
        | refine WpOps.gsplit _ rfl rfl rfl (fun h => ?_) (fun h => ?_)
        | refine WpOps.nil ?_
      all_goals
        refine ⟨rfl, ⟨rfl, congrArg AV.bool ?_, trivial⟩, rfl⟩
        clear c1 c2 c3 c4 c5 c6 c7 c8 c9 c10 c11
        simp_all
    have hie : (!inherit || er) = !(inherit && !er) := by cases inherit <;> cases er <;> rfl
    rw [hie]
    cases (inherit && !er) with
    | true =>
      repeat' first
        | refine WpA.seq ?_
        | refine WpA.region ?_
        | refine WpOps.op _ rfl rfl rfl rfl rfl ?_
        | refine WpOps.nil ?_
        | refine WpA.ret ?_
        | refine WpA.condT rfl ?_
      exact retK.ok rfl rfl rfl .int
    | false =>
      refine WpA.joinS [(1, .ptr H.length 0 0)] (H ++ [.cells (Crt.cells ⟨serial, issuer, subject, f, t, rt, height, ca, inherit, ⟨v4, v6, sy⟩, repo, man, notify, crl, parent, idx, ch, pa⟩)]) ?_ ?_
      · repeat' first
          | refine WpA.skip ?_
          | refine WpA.condF rfl ?_
        exact ⟨⟨rfl, trivial⟩, rfl⟩
      rw [Bool.not_false, Bool.true_and]
      refine WpA.seq ?_
      refine WpA.cutS [(88, .bool (!(p1 && p2 && p3 && p4 && p5 && k5)))] (H ++ [.cells (Crt.cells ⟨serial, issuer, subject, f, t, rt, height, ca, inherit, ⟨v4, v6, sy⟩, repo, man, notify, crl, parent, idx, ch, pa⟩)]) ?_ ?_
      · repeat' first
          | refine WpA.region ?_
          | refine WpOps.op _ rfl rfl rfl rfl rfl ?_
          | refine WpOps.skip rfl rfl rfl ?_
          | (refine WpOps.call rfl rfl rfl rfl rfl (by exact c6 _) ?_; rintro _ _ ⟨rfl, rfl⟩)
          | (refine WpOps.call rfl rfl rfl rfl rfl (by exact c7 _) ?_; rintro _ _ ⟨rfl, rfl⟩)
          | (refine WpOps.call rfl rfl rfl rfl rfl (by exact c8 _) ?_; rintro _ _ ⟨rfl, rfl⟩)
          | (refine WpOps.call rfl rfl rfl rfl rfl (by exact c9 _) ?_; rintro _ _ ⟨rfl, rfl⟩)
          | (refine WpOps.call rfl rfl rfl rfl rfl (by exact c10 _) ?_; rintro _ _ ⟨rfl, rfl⟩)
          | (refine WpOps.call rfl rfl rfl rfl rfl (by exact c11 _) ?_; rintro _ _ ⟨rfl, rfl⟩)
          | refine WpOps.gsplit _ rfl rfl rfl (fun h => ?_) (fun h => ?_)
          | refine WpOps.nil ?_
        all_goals
          refine ⟨rfl, ⟨congrArg AV.bool ?_, trivial⟩, rfl⟩
          clear c1 c2 c3 c4 c5 c6 c7 c8 c9 c10 c11
          simp_all
      cases (p1 && p2 && p3 && p4 && p5 && k5) with
      | true =>
        repeat' first
          | refine WpA.seq ?_
          | refine WpA.region ?_
          | refine WpOps.op _ rfl rfl rfl rfl rfl ?_
          | refine WpOps.nil ?_
          | refine WpA.ret ?_
          | refine WpA.skip ?_
          | refine WpA.condF rfl ?_
        exact retK.ok rfl rfl rfl .int
      | false =>
        repeat' first
          | refine WpA.seq ?_
          | refine WpA.region ?_
          | refine WpOps.op _ rfl rfl rfl rfl rfl ?_
          | refine WpOps.nil ?_
          | refine WpA.ret ?_
          | refine WpA.condT rfl ?_
        exact retK.ok rfl rfl rfl .int
end Go.Gp.Tryz

/- Profiles: the forms of certificates, their parts. -/
namespace Go.Gp.Tryz
variable [Inhabited MaxLenT]
open Go.Proofs
set_option linter.unusedVariables false
set_option linter.unusedSimpArgs false
set_option linter.unusedSectionVars false
set_option maxHeartbeats 4000000

def lastE (s : List UInt8) (k : Int) : Bool := ((splitE s).2.2 == 0) && (kindE (splitE s).2.1 == k)
theorem splitE_name (s : List UInt8) : (splitE s).2.1.length ≤ 1000 := by
  unfold splitE
  split
  · simp
  · rename_i h
    split
    · simp
    · show (lastL (parseE s).1).length ≤ 1000
      rcases parseE_spec s with ⟨_, h1, _⟩ | h1
      · have o := chkE_ok h1
        unfold lastL
        cases hx : (parseE s).1.parts[(parseE s).1.parts.length - 1]? with
        | none => simp
        | some p =>
          have := o.names p (List.mem_of_getElem? hx)
          unfold name at this
          simp only [Bool.and_eq_true, decide_eq_true_eq] at this
          show p.length ≤ 1000
          omega
      · rw [h1] at h; exact absurd (show (12 : Int) ≠ 0 by decide) h
theorem last_A (s : List UInt8) (k : Int) (H : List AObj) (hs : s.length ≤ 1000000) : CallsA E 110 [.str s, .int .u8 k] H (Is H (.bool (lastE s k))) := by
  have c1 := fun X => locSplit_A s X hs
  have hn := splitE_name s
  unfold splitAV at c1
  unfold lastE
  generalize splitE s = sp at *
  obtain ⟨d, n, e⟩ := sp
  dsimp only at *
  have c2 := fun X => Kind_A n X (by omega)
  generalize kindE n = kn at *
  refine .enter Tryz.func110 rfl rfl rfl 22 Tryz.ntmps110 (Nat.le_of_ble_eq_true rfl) ?_
  repeat' first
    | refine WpA.seq ?_
    | refine WpA.region ?_
    | refine WpOps.op _ rfl rfl rfl rfl rfl ?_
    | refine WpOps.skip rfl rfl rfl ?_
    | (refine WpOps.call rfl rfl rfl rfl rfl (by exact c1 _) ?_; rintro _ _ ⟨rfl, rfl⟩)
    | (refine WpOps.call rfl rfl rfl rfl rfl (by exact c2 _) ?_; rintro _ _ ⟨rfl, rfl⟩)
    | refine WpOps.gsplit _ rfl rfl rfl (fun h => ?_) (fun h => ?_)
    | refine WpOps.nil ?_
    | refine WpA.ret ?_
  all_goals
    refine retK.ok rfl rfl (congrArg AV.bool ?_) .bool
    clear c1 c2
    simp_all
theorem refLast_A (s : List UInt8) (k : Int) (H : List AObj) (hs : s.length ≤ 1000000) : CallsA E 71 [.str s, .int .u8 k] H (Is H (.bool (lastE s k))) := by
  have c1 := fun X => refSplit_A s X hs
  have hn := splitE_name s
  unfold splitAV at c1
  unfold lastE
  generalize splitE s = sp at *
  obtain ⟨d, n, e⟩ := sp
  dsimp only at *
  have c2 := fun X => refKind_A n X (by omega)
  generalize kindE n = kn at *
  refine .enter Tryz.func71 rfl rfl rfl 22 Tryz.ntmps71 (Nat.le_of_ble_eq_true rfl) ?_
  repeat' first
    | refine WpA.seq ?_
    | refine WpA.region ?_
    | refine WpOps.op _ rfl rfl rfl rfl rfl ?_
    | refine WpOps.skip rfl rfl rfl ?_
    | (refine WpOps.call rfl rfl rfl rfl rfl (by exact c1 _) ?_; rintro _ _ ⟨rfl, rfl⟩)
    | (refine WpOps.call rfl rfl rfl rfl rfl (by exact c2 _) ?_; rintro _ _ ⟨rfl, rfl⟩)
    | refine WpOps.gsplit _ rfl rfl rfl (fun h => ?_) (fun h => ?_)
    | refine WpOps.nil ?_
    | refine WpA.ret ?_
  all_goals
    refine retK.ok rfl rfl (congrArg AV.bool ?_) .bool
    clear c1 c2
    simp_all
def homeE (c : Crt) : Bool := ((withinE c.repo c.man).2 == 0) && (withinE c.repo c.man).1 && lastE c.man 3
def parentsE (c : Crt) : Bool := lastE c.crl 2 && lastE c.parent 1
def nowhereE (c : Crt) : Bool := (c.repo == []) && (c.man == []) && (c.notify == [])
def oneE (r : Res) : Bool := ((((spRows r.v4).length : Nat) : Int) + ((spRows r.v6).length : Nat) == 0) && ((((asRows r.sy).length : Nat) : Int) == 1) && (match r.sy with | a :: _ => ((a.f : Int) == a.t) | [] => false)
def authE (c : Crt) : Bool := c.ca && (c.inherit || !emptyR c.res) && !(c.issuer == c.subject) && homeE c && parentsE c
def routE (c : Crt) : Bool := !c.ca && !c.inherit && oneE c.res && nowhereE c && parentsE c
def rootE (c : Crt) : Bool := c.ca && !c.inherit && !emptyR c.res && (c.issuer == c.subject) && homeE c && (c.crl == []) && (c.parent == [])
theorem home_A (c : Crt) (H : List AObj) (hc : c.sm) : CallsA E 82 [.agg c.cells] H (Is H (.bool (homeE c))) := by
  have c1 := fun X => locWithin_A c.repo c.man X (by have := hc.repo; omega) (by have := hc.man; omega)
  have c2 := fun X => last_A c.man 3 X (by have := hc.man; omega)
  unfold withAV at c1
  unfold homeE
  generalize withinE c.repo c.man = wi at *
  obtain ⟨b, e⟩ := wi
  generalize lastE c.man 3 = la at *
  clear hc
  obtain ⟨serial, issuer, subject, f, t, rt, height, ca, inherit, ⟨v4, v6, sy⟩, repo, man, notify, crl, parent, idx, ch, pa⟩ := c
  dsimp only at *
  refine .enter Tryz.func82 rfl rfl rfl 26 Tryz.ntmps82 (Nat.le_of_ble_eq_true rfl) ?_
  repeat' first
    | refine WpA.seq ?_
    | refine WpA.region ?_
    | refine WpOps.op _ rfl rfl rfl rfl rfl ?_
    | refine WpOps.box _ rfl rfl rfl rfl rfl ?_
    | refine WpOps.skip rfl rfl rfl ?_
    | (refine WpOps.call rfl rfl rfl rfl rfl (by exact c1 _) ?_; rintro _ _ ⟨rfl, rfl⟩)
    | (refine WpOps.call rfl rfl rfl rfl rfl (by exact c2 _) ?_; rintro _ _ ⟨rfl, rfl⟩)
    | refine WpOps.gsplit _ rfl rfl rfl (fun h => ?_) (fun h => ?_)
    | refine WpOps.nil ?_
    | refine WpA.ret ?_
  all_goals
    refine retK.ok rfl rfl (congrArg AV.bool ?_) .bool
    clear c1 c2
    simp_all
theorem refHome_A (c : Crt) (H : List AObj) (hc : c.sm) : CallsA E 47 [.agg c.cells] H (Is H (.bool (homeE c))) := by
  have c1 := fun X => refWithin_A c.repo c.man X (by have := hc.repo; omega) (by have := hc.man; omega)
  have c2 := fun X => refLast_A c.man 3 X (by have := hc.man; omega)
  unfold withAV at c1
  unfold homeE
  generalize withinE c.repo c.man = wi at *
  obtain ⟨b, e⟩ := wi
  generalize lastE c.man 3 = la at *
  clear hc
  obtain ⟨serial, issuer, subject, f, t, rt, height, ca, inherit, ⟨v4, v6, sy⟩, repo, man, notify, crl, parent, idx, ch, pa⟩ := c
  dsimp only at *
  refine .enter Tryz.func47 rfl rfl rfl 23 Tryz.ntmps47 (Nat.le_of_ble_eq_true rfl) ?_
  repeat' first
    | refine WpA.seq ?_
    | refine WpA.region ?_
    | refine WpOps.op _ rfl rfl rfl rfl rfl ?_
    | refine WpOps.box _ rfl rfl rfl rfl rfl ?_
    | refine WpOps.skip rfl rfl rfl ?_
    | (refine WpOps.call rfl rfl rfl rfl rfl (by exact c1 _) ?_; rintro _ _ ⟨rfl, rfl⟩)
    | (refine WpOps.call rfl rfl rfl rfl rfl (by exact c2 _) ?_; rintro _ _ ⟨rfl, rfl⟩)
    | refine WpOps.gsplit _ rfl rfl rfl (fun h => ?_) (fun h => ?_)
    | refine WpOps.nil ?_
    | refine WpA.ret ?_
  all_goals
    refine retK.ok rfl rfl (congrArg AV.bool ?_) .bool
    clear c1 c2
    simp_all
theorem parents_A (c : Crt) (H : List AObj) (hc : c.sm) : CallsA E 83 [.agg c.cells] H (Is H (.bool (parentsE c))) := by
  have c1 := fun X => last_A c.crl 2 X (by have := hc.crl; omega)
  have c2 := fun X => last_A c.parent 1 X (by have := hc.parent; omega)
  unfold parentsE
  generalize lastE c.crl 2 = l1 at *
  generalize lastE c.parent 1 = l2 at *
  clear hc
  obtain ⟨serial, issuer, subject, f, t, rt, height, ca, inherit, ⟨v4, v6, sy⟩, repo, man, notify, crl, parent, idx, ch, pa⟩ := c
  dsimp only at *
  refine .enter Tryz.func83 rfl rfl rfl 13 Tryz.ntmps83 (Nat.le_of_ble_eq_true rfl) ?_
  repeat' first
    | refine WpA.seq ?_
    | refine WpA.region ?_
    | refine WpOps.op _ rfl rfl rfl rfl rfl ?_
    | refine WpOps.box _ rfl rfl rfl rfl rfl ?_
    | refine WpOps.skip rfl rfl rfl ?_
    | (refine WpOps.call rfl rfl rfl rfl rfl (by exact c1 _) ?_; rintro _ _ ⟨rfl, rfl⟩)
    | (refine WpOps.call rfl rfl rfl rfl rfl (by exact c2 _) ?_; rintro _ _ ⟨rfl, rfl⟩)
    | refine WpOps.gsplit _ rfl rfl rfl (fun h => ?_) (fun h => ?_)
    | refine WpOps.nil ?_
    | refine WpA.ret ?_
  all_goals
    refine retK.ok rfl rfl (congrArg AV.bool ?_) .bool
    clear c1 c2
    simp_all
theorem refParents_A (c : Crt) (H : List AObj) (hc : c.sm) : CallsA E 48 [.agg c.cells] H (Is H (.bool (parentsE c))) := by
  have c1 := fun X => refLast_A c.crl 2 X (by have := hc.crl; omega)
  have c2 := fun X => refLast_A c.parent 1 X (by have := hc.parent; omega)
  unfold parentsE
  generalize lastE c.crl 2 = l1 at *
  generalize lastE c.parent 1 = l2 at *
  clear hc
  obtain ⟨serial, issuer, subject, f, t, rt, height, ca, inherit, ⟨v4, v6, sy⟩, repo, man, notify, crl, parent, idx, ch, pa⟩ := c
  dsimp only at *
  refine .enter Tryz.func48 rfl rfl rfl 11 Tryz.ntmps48 (Nat.le_of_ble_eq_true rfl) ?_
  repeat' first
    | refine WpA.seq ?_
    | refine WpA.region ?_
    | refine WpOps.op _ rfl rfl rfl rfl rfl ?_
    | refine WpOps.box _ rfl rfl rfl rfl rfl ?_
    | refine WpOps.skip rfl rfl rfl ?_
    | (refine WpOps.call rfl rfl rfl rfl rfl (by exact c1 _) ?_; rintro _ _ ⟨rfl, rfl⟩)
    | (refine WpOps.call rfl rfl rfl rfl rfl (by exact c2 _) ?_; rintro _ _ ⟨rfl, rfl⟩)
    | refine WpOps.gsplit _ rfl rfl rfl (fun h => ?_) (fun h => ?_)
    | refine WpOps.nil ?_
    | refine WpA.ret ?_
  all_goals
    refine retK.ok rfl rfl (congrArg AV.bool ?_) .bool
    clear c1 c2
    simp_all
theorem nowhere_A (c : Crt) (H : List AObj) : CallsA E 84 [.agg c.cells] H (Is H (.bool (nowhereE c))) := by
  have hq : nowhereE c = ((c.repo == ({ data := #[] } : ByteArray).data.toList) && (c.man == ({ data := #[] } : ByteArray).data.toList) && (c.notify == ({ data := #[] } : ByteArray).data.toList)) := rfl
  rw [hq]
  clear hq
  obtain ⟨serial, issuer, subject, f, t, rt, height, ca, inherit, ⟨v4, v6, sy⟩, repo, man, notify, crl, parent, idx, ch, pa⟩ := c
  dsimp only at *
  refine .enter Tryz.func84 rfl rfl rfl 19 Tryz.ntmps84 (Nat.le_of_ble_eq_true rfl) ?_
  repeat' first
    | refine WpA.seq ?_
    | refine WpA.region ?_
    | refine WpOps.op _ rfl rfl rfl rfl rfl ?_
    | refine WpOps.box _ rfl rfl rfl rfl rfl ?_
    | refine WpOps.skip rfl rfl rfl ?_
    | refine WpOps.gsplit _ rfl rfl rfl (fun h => ?_) (fun h => ?_)
    | refine WpOps.nil ?_
    | refine WpA.ret ?_
  all_goals
    refine retK.ok rfl rfl (congrArg AV.bool ?_) .bool
    simp_all
theorem refNowhere_A (c : Crt) (H : List AObj) : CallsA E 49 [.agg c.cells] H (Is H (.bool (nowhereE c))) := by
  have hq : nowhereE c = ((c.repo == ({ data := #[] } : ByteArray).data.toList) && (c.man == ({ data := #[] } : ByteArray).data.toList) && (c.notify == ({ data := #[] } : ByteArray).data.toList)) := rfl
  rw [hq]
  clear hq
  obtain ⟨serial, issuer, subject, f, t, rt, height, ca, inherit, ⟨v4, v6, sy⟩, repo, man, notify, crl, parent, idx, ch, pa⟩ := c
  dsimp only at *
  refine .enter Tryz.func49 rfl rfl rfl 16 Tryz.ntmps49 (Nat.le_of_ble_eq_true rfl) ?_
  repeat' first
    | refine WpA.seq ?_
    | refine WpA.region ?_
    | refine WpOps.op _ rfl rfl rfl rfl rfl ?_
    | refine WpOps.box _ rfl rfl rfl rfl rfl ?_
    | refine WpOps.skip rfl rfl rfl ?_
    | refine WpOps.gsplit _ rfl rfl rfl (fun h => ?_) (fun h => ?_)
    | refine WpOps.nil ?_
    | refine WpA.ret ?_
  all_goals
    refine retK.ok rfl rfl (congrArg AV.bool ?_) .bool
    simp_all
theorem refEmpty_A (r : Res) (H : List AObj) (hs : r.small) : CallsA E 46 [.agg r.cells] H (Is H (.bool (emptyR r))) := by
  have hl4 := spRows_len r.v4
  have hl6 := spRows_len r.v6
  have hla := asRows_len r.sy
  obtain ⟨h1, h2, h3⟩ := hs
  rw [← hl4] at h1
  rw [← hl6] at h2
  rw [← hla] at h3
  unfold emptyR Res.cells
  generalize spRows r.v4 = aa at *
  generalize spRows r.v6 = bb at *
  generalize asRows r.sy = dd at *
  refine .enter Tryz.func46 rfl rfl rfl 15 Tryz.ntmps46 (Nat.le_of_ble_eq_true rfl) ?_
  have e1 : IntKind.i64.wrap (((aa.length : Nat) : Int) + ((bb.length : Nat) : Int)) = ((aa.length : Nat) : Int) + ((bb.length : Nat) : Int) := wrap64 (by omega) (by omega)
  have e2 : IntKind.i64.wrap (((aa.length : Nat) : Int) + ((bb.length : Nat) : Int) + ((dd.length : Nat) : Int)) = ((aa.length : Nat) : Int) + ((bb.length : Nat) : Int) + ((dd.length : Nat) : Int) := wrap64 (by omega) (by omega)
  repeat' first
    | refine WpA.seq ?_
    | refine WpA.region ?_
    | refine WpOps.op _ rfl rfl rfl rfl rfl ?_
    | refine WpOps.box _ rfl rfl rfl rfl rfl ?_
    | refine WpOps.nil ?_
    | refine WpA.ret ?_
  refine retK.ok rfl rfl (congrArg AV.bool ?_) .bool
  rw [e1, e2]
  rfl
end Go.Gp.Tryz

/- Profiles: the forms of certificates. -/
namespace Go.Gp.Tryz
variable [Inhabited MaxLenT]
open Go.Proofs
set_option linter.unusedVariables false
set_option linter.unusedSimpArgs false
set_option linter.unusedSectionVars false
set_option maxHeartbeats 4000000

abbrev emptyB : List UInt8 := ({ data := #[] } : ByteArray).data.toList
theorem authority_A (c : Crt) (H : List AObj) (hc : c.sm) : CallsA E 60 [.agg c.cells] H (Is H (.bool (authE c))) := by
  have c1 : ∀ X, CallsA E 28 [.agg [.sl .no 4 (spRows c.res.v4), .sl .no 4 (spRows c.res.v6), .sl .no 2 (asRows c.res.sy)]] X (Is X (.bool (emptyR c.res))) := fun X => empty_A c.res X hc.rs
  have c2 := fun X => home_A c X hc
  have c3 := fun X => parents_A c X hc
  unfold authE
  generalize emptyR c.res = er at *
  generalize homeE c = ho at *
  generalize parentsE c = pa at *
  clear hc
  obtain ⟨serial, issuer, subject, f, t, rt, height, ca, inherit, ⟨v4, v6, sy⟩, repo, man, notify, crl, parent, idx, ch, pa⟩ := c
  dsimp only at *
  refine .enter Tryz.func60 rfl rfl rfl 35 Tryz.ntmps60 (Nat.le_of_ble_eq_true rfl) ?_
  repeat' first
    | refine WpA.seq ?_
    | refine WpA.region ?_
    | refine WpOps.op _ rfl rfl rfl rfl rfl ?_
    | refine WpOps.box _ rfl rfl rfl rfl rfl ?_
    | refine WpOps.skip rfl rfl rfl ?_
    | (refine WpOps.call rfl rfl rfl rfl rfl (by exact c1 _) ?_; rintro _ _ ⟨rfl, rfl⟩)
    | (refine WpOps.call rfl rfl rfl rfl rfl (by exact c2 _) ?_; rintro _ _ ⟨rfl, rfl⟩)
    | (refine WpOps.call rfl rfl rfl rfl rfl (by exact c3 _) ?_; rintro _ _ ⟨rfl, rfl⟩)
    | refine WpOps.gsplit _ rfl rfl rfl (fun h => ?_) (fun h => ?_)
    | refine WpOps.nil ?_
    | refine WpA.ret ?_
  all_goals
    refine retK.ok rfl rfl (congrArg AV.bool ?_) .bool
    clear c1 c2 c3
    simp_all
    try (cases parent <;> rfl)
theorem refAuthority_A (c : Crt) (H : List AObj) (hc : c.sm) : CallsA E 20 [.agg c.cells] H (Is H (.bool (!emptySig c.idx c.ch c.pa && authE c))) := by
  have c0 := fun X => signed_A c.idx c.ch c.pa X
  have c1 : ∀ X, CallsA E 46 [.agg [.sl .no 4 (spRows c.res.v4), .sl .no 4 (spRows c.res.v6), .sl .no 2 (asRows c.res.sy)]] X (Is X (.bool (emptyR c.res))) := fun X => refEmpty_A c.res X hc.rs
  have c2 := fun X => refHome_A c X hc
  have c3 := fun X => refParents_A c X hc
  unfold sigC at c0
  unfold authE
  generalize emptySig c.idx c.ch c.pa = es at *
  generalize emptyR c.res = er at *
  generalize homeE c = ho at *
  generalize parentsE c = pr at *
  clear hc
  obtain ⟨serial, issuer, subject, f, t, rt, height, ca, inherit, ⟨v4, v6, sy⟩, repo, man, notify, crl, parent, idx, ch, pa⟩ := c
  dsimp only at *
  refine .enter Tryz.func20 rfl rfl rfl 35 Tryz.ntmps20 (Nat.le_of_ble_eq_true rfl) ?_
  repeat' first
    | refine WpA.seq ?_
    | refine WpA.region ?_
    | refine WpOps.op _ rfl rfl rfl rfl rfl ?_
    | refine WpOps.box _ rfl rfl rfl rfl rfl ?_
    | refine WpOps.skip rfl rfl rfl ?_
    | (refine WpOps.call rfl rfl rfl rfl rfl (by exact c0 _) ?_; rintro _ _ ⟨rfl, rfl⟩)
    | (refine WpOps.call rfl rfl rfl rfl rfl (by exact c1 _) ?_; rintro _ _ ⟨rfl, rfl⟩)
    | (refine WpOps.call rfl rfl rfl rfl rfl (by exact c2 _) ?_; rintro _ _ ⟨rfl, rfl⟩)
    | (refine WpOps.call rfl rfl rfl rfl rfl (by exact c3 _) ?_; rintro _ _ ⟨rfl, rfl⟩)
    | refine WpOps.gsplit _ rfl rfl rfl (fun h => ?_) (fun h => ?_)
    | refine WpOps.nil ?_
    | refine WpA.ret ?_
  all_goals
    refine retK.ok rfl rfl (congrArg AV.bool ?_) .bool
    clear c0 c1 c2 c3
    simp_all
    try (cases parent <;> rfl)
theorem root_A (c : Crt) (H : List AObj) (hc : c.sm) : CallsA E 62 [.agg c.cells] H (Is H (.bool (rootE c))) := by
  have c1 : ∀ X, CallsA E 28 [.agg [.sl .no 4 (spRows c.res.v4), .sl .no 4 (spRows c.res.v6), .sl .no 2 (asRows c.res.sy)]] X (Is X (.bool (emptyR c.res))) := fun X => empty_A c.res X hc.rs
  have c2 := fun X => home_A c X hc
  have hq : rootE c = (c.ca && !c.inherit && !emptyR c.res && (c.issuer == c.subject) && homeE c && (c.crl == emptyB) && (c.parent == emptyB)) := rfl
  rw [hq]
  clear hq
  generalize emptyR c.res = er at *
  generalize homeE c = ho at *
  clear hc
  obtain ⟨serial, issuer, subject, f, t, rt, height, ca, inherit, ⟨v4, v6, sy⟩, repo, man, notify, crl, parent, idx, ch, pa⟩ := c
  dsimp only at *
  refine .enter Tryz.func62 rfl rfl rfl 44 Tryz.ntmps62 (Nat.le_of_ble_eq_true rfl) ?_
  repeat' first
    | refine WpA.seq ?_
    | refine WpA.region ?_
    | refine WpOps.op _ rfl rfl rfl rfl rfl ?_
    | refine WpOps.box _ rfl rfl rfl rfl rfl ?_
    | refine WpOps.skip rfl rfl rfl ?_
    | (refine WpOps.call rfl rfl rfl rfl rfl (by exact c1 _) ?_; rintro _ _ ⟨rfl, rfl⟩)
    | (refine WpOps.call rfl rfl rfl rfl rfl (by exact c2 _) ?_; rintro _ _ ⟨rfl, rfl⟩)
    | refine WpOps.gsplit _ rfl rfl rfl (fun h => ?_) (fun h => ?_)
    | refine WpOps.nil ?_
    | refine WpA.ret ?_
  all_goals
    refine retK.ok rfl rfl (congrArg AV.bool ?_) .bool
    clear c1 c2
    simp_all
    try (cases parent <;> rfl)
theorem refRoot_A (c : Crt) (H : List AObj) (hc : c.sm) : CallsA E 22 [.agg c.cells] H (Is H (.bool (!emptySig c.idx c.ch c.pa && rootE c))) := by
  have c0 := fun X => signed_A c.idx c.ch c.pa X
  have c1 : ∀ X, CallsA E 46 [.agg [.sl .no 4 (spRows c.res.v4), .sl .no 4 (spRows c.res.v6), .sl .no 2 (asRows c.res.sy)]] X (Is X (.bool (emptyR c.res))) := fun X => refEmpty_A c.res X hc.rs
  have c2 := fun X => refHome_A c X hc
  have hq : rootE c = (c.ca && !c.inherit && !emptyR c.res && (c.issuer == c.subject) && homeE c && (c.crl == emptyB) && (c.parent == emptyB)) := rfl
  rw [hq]
  clear hq
  unfold sigC at c0
  generalize emptySig c.idx c.ch c.pa = es at *
  generalize emptyR c.res = er at *
  generalize homeE c = ho at *
  clear hc
  obtain ⟨serial, issuer, subject, f, t, rt, height, ca, inherit, ⟨v4, v6, sy⟩, repo, man, notify, crl, parent, idx, ch, pa⟩ := c
  dsimp only at *
  refine .enter Tryz.func22 rfl rfl rfl 42 Tryz.ntmps22 (Nat.le_of_ble_eq_true rfl) ?_
  repeat' first
    | refine WpA.seq ?_
    | refine WpA.region ?_
    | refine WpOps.op _ rfl rfl rfl rfl rfl ?_
    | refine WpOps.box _ rfl rfl rfl rfl rfl ?_
    | refine WpOps.skip rfl rfl rfl ?_
    | (refine WpOps.call rfl rfl rfl rfl rfl (by exact c0 _) ?_; rintro _ _ ⟨rfl, rfl⟩)
    | (refine WpOps.call rfl rfl rfl rfl rfl (by exact c1 _) ?_; rintro _ _ ⟨rfl, rfl⟩)
    | (refine WpOps.call rfl rfl rfl rfl rfl (by exact c2 _) ?_; rintro _ _ ⟨rfl, rfl⟩)
    | refine WpOps.gsplit _ rfl rfl rfl (fun h => ?_) (fun h => ?_)
    | refine WpOps.nil ?_
    | refine WpA.ret ?_
  all_goals
    refine retK.ok rfl rfl (congrArg AV.bool ?_) .bool
    clear c0 c1 c2
    simp_all
    try (cases parent <;> rfl)
theorem one_cases (r : Res) (hs : r.small) : ∃ b1 b2, ((IntKind.i64.wrap ((((spRows r.v4).length : Nat) : Int) + ((spRows r.v6).length : Nat))) == 0) = b1 ∧ ((((asRows r.sy).length : Nat) : Int) == 1) = b2 ∧ (b2 = false ∧ oneE r = false ∨ b2 = true ∧ ∃ a, r.sy = [a] ∧ oneE r = (b1 && ((a.f : Int) == a.t))) := by
  obtain ⟨h1, h2, h3⟩ := hs
  rw [← spRows_len] at h1 h2
  refine ⟨_, _, rfl, rfl, ?_⟩
  have e : IntKind.i64.wrap ((((spRows r.v4).length : Nat) : Int) + ((spRows r.v6).length : Nat)) = (((spRows r.v4).length : Nat) : Int) + ((spRows r.v6).length : Nat) := wrap64 (by omega) (by omega)
  rw [e]
  unfold oneE
  cases hsy : r.sy with
  | nil => left; exact ⟨rfl, by show (_ && false && _) = false; simp⟩
  | cons a l =>
    cases l with
    | nil => right; exact ⟨rfl, a, rfl, by show (_ && true && _) = _; simp⟩
    | cons b l =>
      left
      have : ((((asRows (a :: b :: l)).length : Nat) : Int) == 1) = false := by rw [asRows_len]; simp; omega
      exact ⟨this, by rw [this]; simp⟩
theorem router_A (c : Crt) (H : List AObj) (hc : c.sm) : CallsA E 61 [.agg c.cells] H (Is H (.bool (routE c))) := by
  have c1 := fun X => nowhere_A c X
  have c2 := fun X => parents_A c X hc
  obtain ⟨b1, b2, h1, h2, h3⟩ := one_cases c.res hc.rs
  unfold routE
  generalize oneE c.res = one at *
  generalize nowhereE c = nw at *
  generalize parentsE c = pr at *
  clear hc
  obtain ⟨serial, issuer, subject, f, t, rt, height, ca, inherit, ⟨v4, v6, sy⟩, repo, man, notify, crl, parent, idx, ch, pa⟩ := c
  dsimp only at *
  refine .enter Tryz.func61 rfl rfl rfl 62 Tryz.ntmps61 (Nat.le_of_ble_eq_true rfl) ?_
  refine WpA.seq ?_
  repeat' first
    | refine WpA.region ?_
    | refine WpOps.op _ rfl rfl rfl rfl rfl ?_
    | refine WpOps.box _ rfl rfl rfl rfl rfl ?_
    | refine WpOps.nil ?_
  refine WpA.cutS [(1, .ptr H.length 0 0), (3, .bool one)] (H ++ [.cells (Crt.cells ⟨serial, issuer, subject, f, t, rt, height, ca, inherit, ⟨v4, v6, sy⟩, repo, man, notify, crl, parent, idx, ch, pa⟩)]) ?_ ?_
  · rcases h3 with ⟨rfl, rfl⟩ | ⟨rfl, a, rfl, rfl⟩
    · have g2 : ¬ (((((asRows sy).length : Nat) : Int) == 1) = true) := by rw [h2]; decide
      repeat' first
        | exact absurd (by assumption) g2
        | refine WpA.draw (by kernel_rfl) ?_
        | refine LexA.op _ rfl rfl rfl rfl rfl ?_
        | refine LexA.skip rfl rfl rfl ?_
        | refine LexA.gsplit _ rfl rfl rfl (fun h => ?_) (fun h => ?_)
        | refine LexA.nil ?_
      all_goals
        refine ⟨rfl, ⟨rfl, congrArg AV.bool ?_, trivial⟩, rfl⟩
        clear c1 c2
        simp_all
    · have g2 : ¬ (((((asRows [a]).length : Nat) : Int) == 1) = false) := by rw [h2]; decide
      have hg : (asRows [a])[(0 : Int).toNat]? = some a.cells := rfl
      repeat' first
        | (refine LexA.elem _ rfl rfl rfl rfl rfl rfl rfl rfl rfl (Int.le_refl 0) hg ?_)
        | refine WpA.draw (by kernel_rfl) ?_
        | refine LexA.op _ rfl rfl rfl rfl rfl ?_
        | refine LexA.skip rfl rfl rfl ?_
        | refine LexA.gsplit _ rfl rfl rfl (fun h => ?_) (fun h => ?_)
        | refine LexA.nil ?_
      all_goals
        refine ⟨rfl, ⟨rfl, congrArg AV.bool ?_, trivial⟩, rfl⟩
        clear c1 c2
        simp_all
  clear h1 h2 h3
  repeat' first
    | refine WpA.seq ?_
    | refine WpA.region ?_
    | refine WpOps.op _ rfl rfl rfl rfl rfl ?_
    | refine WpOps.skip rfl rfl rfl ?_
    | (refine WpOps.call rfl rfl rfl rfl rfl (by exact c1 _) ?_; rintro _ _ ⟨rfl, rfl⟩)
    | (refine WpOps.call rfl rfl rfl rfl rfl (by exact c2 _) ?_; rintro _ _ ⟨rfl, rfl⟩)
    | refine WpOps.gsplit _ rfl rfl rfl (fun h => ?_) (fun h => ?_)
    | refine WpOps.nil ?_
    | refine WpA.ret ?_
  all_goals
    refine retK.ok rfl rfl (congrArg AV.bool ?_) .bool
    clear c1 c2
    simp_all
    try (cases parent <;> rfl)
theorem refRouter_A (c : Crt) (H : List AObj) (hc : c.sm) : CallsA E 21 [.agg c.cells] H (Is H (.bool (!emptySig c.idx c.ch c.pa && routE c))) := by
  have c0 := fun X => signed_A c.idx c.ch c.pa X
  have c1 := fun X => refNowhere_A c X
  have c2 := fun X => refParents_A c X hc
  obtain ⟨b1, b2, h1, h2, h3⟩ := one_cases c.res hc.rs
  unfold sigC at c0
  unfold routE
  generalize emptySig c.idx c.ch c.pa = es at *
  generalize oneE c.res = one at *
  generalize nowhereE c = nw at *
  generalize parentsE c = pr at *
  clear hc
  obtain ⟨serial, issuer, subject, f, t, rt, height, ca, inherit, ⟨v4, v6, sy⟩, repo, man, notify, crl, parent, idx, ch, pa⟩ := c
  dsimp only at *
  refine .enter Tryz.func21 rfl rfl rfl 57 Tryz.ntmps21 (Nat.le_of_ble_eq_true rfl) ?_
  refine WpA.seq ?_
  repeat' first
    | refine WpA.region ?_
    | refine WpOps.op _ rfl rfl rfl rfl rfl ?_
    | refine WpOps.box _ rfl rfl rfl rfl rfl ?_
    | refine WpOps.nil ?_
  refine WpA.seq ?_
  refine WpA.cutS [(1, .ptr H.length 0 0), (24, .bool (!(!es && !ca && !inherit && nw && pr)))] (H ++ [.cells (Crt.cells ⟨serial, issuer, subject, f, t, rt, height, ca, inherit, ⟨v4, v6, sy⟩, repo, man, notify, crl, parent, idx, ch, pa⟩)]) ?_ ?_
  · repeat' first
      | refine WpA.region ?_
      | refine WpOps.op _ rfl rfl rfl rfl rfl ?_
      | refine WpOps.skip rfl rfl rfl ?_
      | (refine WpOps.call rfl rfl rfl rfl rfl (by exact c0 _) ?_; rintro _ _ ⟨rfl, rfl⟩)
      | (refine WpOps.call rfl rfl rfl rfl rfl (by exact c1 _) ?_; rintro _ _ ⟨rfl, rfl⟩)
      | (refine WpOps.call rfl rfl rfl rfl rfl (by exact c2 _) ?_; rintro _ _ ⟨rfl, rfl⟩)
      | refine WpOps.gsplit _ rfl rfl rfl (fun h => ?_) (fun h => ?_)
      | refine WpOps.nil ?_
    all_goals
      refine ⟨rfl, ⟨rfl, congrArg AV.bool ?_, trivial⟩, rfl⟩
      clear c0 c1 c2 h1 h2 h3
      simp_all
  have hz : (!es && (!ca && !inherit && one && nw && pr)) = ((!es && !ca && !inherit && nw && pr) && one) := by cases es <;> cases ca <;> cases inherit <;> cases nw <;> cases pr <;> cases one <;> rfl
  rw [hz]
  cases (!es && !ca && !inherit && nw && pr) with
  | false =>
    repeat' first
      | refine WpA.seq ?_
      | refine WpA.region ?_
      | refine WpOps.op _ rfl rfl rfl rfl rfl ?_
      | refine WpOps.nil ?_
      | refine WpA.ret ?_
      | refine WpA.condT rfl ?_
    exact retK.ok rfl rfl rfl .bool
  | true =>
    rw [Bool.true_and]
    rcases h3 with ⟨rfl, rfl⟩ | ⟨rfl, a, rfl, rfl⟩
    · have g2 : ¬ (((((asRows sy).length : Nat) : Int) == 1) = true) := by rw [h2]; decide
      repeat' first
        | exact absurd (by assumption) g2
        | refine WpA.seq ?_
        | refine WpA.ret ?_
        | refine WpA.skip ?_
        | refine WpA.condF rfl ?_
        | refine WpA.draw (by kernel_rfl) ?_
        | refine LexA.op _ rfl rfl rfl rfl rfl ?_
        | refine LexA.skip rfl rfl rfl ?_
        | refine LexA.gsplit _ rfl rfl rfl (fun h => ?_) (fun h => ?_)
        | refine LexA.nil ?_
      all_goals
        refine retK.ok rfl rfl (congrArg AV.bool ?_) .bool
        clear c0 c1 c2
        simp_all
    · have g2 : ¬ (((((asRows [a]).length : Nat) : Int) == 1) = false) := by rw [h2]; decide
      have hg : (asRows [a])[(0 : Int).toNat]? = some a.cells := rfl
      repeat' first
        | (refine LexA.elem _ rfl rfl rfl rfl rfl rfl rfl rfl rfl (Int.le_refl 0) hg ?_)
        | refine WpA.seq ?_
        | refine WpA.ret ?_
        | refine WpA.skip ?_
        | refine WpA.condF rfl ?_
        | refine WpA.draw (by kernel_rfl) ?_
        | refine LexA.op _ rfl rfl rfl rfl rfl ?_
        | refine LexA.skip rfl rfl rfl ?_
        | refine LexA.gsplit _ rfl rfl rfl (fun h => ?_) (fun h => ?_)
        | refine LexA.nil ?_
      all_goals
        refine retK.ok rfl rfl (congrArg AV.bool ?_) .bool
        clear c0 c1 c2
        simp_all
end Go.Gp.Tryz

/- The reference's certificates: what is the same as itself, copies, great ones. -/
namespace Go.Gp.Tryz
variable [Inhabited MaxLenT]
open Go.Proofs
set_option linter.unusedVariables false
set_option linter.unusedSimpArgs false
set_option linter.unusedSectionVars false
set_option maxHeartbeats 4000000

/-! ### Rows of short digests -/
def shRow (f : Nat → UInt8) : List AV := (List.range 16).map fun k => u8 (f k)
def shRows (l : List (Nat → UInt8)) : List (List AV) := l.map shRow
theorem shRows_len (l : List (Nat → UInt8)) : (shRows l).length = l.length := List.length_map _
theorem shRows_at {l : List (Nat → UInt8)} {i : Nat} (h : i < l.length) : (shRows l)[((i : Nat) : Int).toNat]? = some (shRow l[i]) := by
  rw [Int.toNat_natCast, shRows, List.getElem?_map, List.getElem?_eq_getElem h]; rfl
theorem shRow_int (f : Nat → UInt8) : ∀ a ∈ shRow f, ∃ v, a = .int .u8 v := fun a ha => by
  obtain ⟨i, _, rfl⟩ := List.mem_map.1 ha
  exact ⟨_, rfl⟩
theorem eqShR (f : Nat → UInt8) : EqS E (.inl 26) [.agg (shRow f)] [.agg (shRow f)] true := by
  have := EqS.bytes (E := E) (t := 26) (q := .u8) rfl rfl (show (shRow f).length = 16 from rfl) (show (shRow f).length = 16 from rfl) (shRow_int f) (shRow_int f)
  rwa [eqAL_self (shRow_int f)] at this
theorem keySh : KeyT Tryz.E 26 := ⟨by kernel_rfl, by kernel_rfl⟩
theorem keyWin : KeyT Tryz.E 24 := ⟨by kernel_rfl, by kernel_rfl⟩
theorem keyPub : KeyT Tryz.E 28 := ⟨by kernel_rfl, by kernel_rfl⟩
theorem eqWinR (a b : Int) : EqS E (.inl 24) [.agg [.int .i64 a, .int .i64 b]] [.agg [.int .i64 a, .int .i64 b]] true := by
  have : EqS E (.inl 24) [.agg [.int .i64 a, .int .i64 b]] [.agg [.int .i64 a, .int .i64 b]] (a == a && (b == b && true)) := .struct rfl (.cons rfl rfl rfl (.int rfl) (.cons rfl rfl rfl (.int rfl) .nil))
  simpa using this
theorem eqPubR (rt : Nat → UInt8) (h : Int) : EqS E (.inl 28) [.agg (keyC rt h)] [.agg (keyC rt h)] true := by
  have : EqS E (.inl 28) [.agg (keyC rt h)] [.agg (keyC rt h)] (true && (h == h && true)) := .struct rfl (.cons rfl rfl rfl (eqShR rt) (.cons rfl rfl rfl (.int rfl) .nil))
  simpa using this
theorem sameShorts_A (l : List (Nat → UInt8)) (H : List AObj) (hl : l.length ≤ 1000000) : CallsA E 51 [.sl .no 16 (shRows l), .sl .no 16 (shRows l)] H (Is H (.bool true)) := by
  have hlen := shRows_len l
  have hd0 : ((((shRows l).length : Nat) : Int) != (((shRows l).length : Nat) : Int)) = false := by simp
  refine .enter Tryz.func51 rfl rfl rfl 26 Tryz.ntmps51 (Nat.le_of_ble_eq_true rfl) ?_
  repeat' first
    | refine WpA.condF (congrArg AV.bool hd0) ?_
    | refine WpA.seq ?_
    | refine WpA.region ?_
    | refine WpOps.op _ rfl rfl rfl rfl rfl ?_
    | refine WpA.block ?_
    | refine WpOps.nil ?_
    | refine WpA.skip ?_
  refine WpA.loopS (α := Nat) (fun i => [(0, .sl .no 16 (shRows l)), (1, .sl .no 16 (shRows l)), (5, .int .i64 (i : Nat))]) (fun _ => H ++ []) (fun i => i ≤ l.length) (fun i => l.length - i) 0 (Nat.zero_le _) ⟨rfl, rfl, rfl, trivial⟩ rfl (fun i hi => ?_)
  by_cases hlt : i < l.length
  · have hd : decide (((i : Nat) : Int) < (((shRows l).length : Nat) : Int)) = true := decide_eq_true (by rw [hlen]; omega)
    have hg := shRows_at hlt
    have heq := eqShR l[i]
    generalize l[i] = f at *
    repeat' first
      | refine WpA.condT (congrArg AV.bool hd) ?_
      | (refine LexA.elem _ rfl rfl rfl rfl rfl rfl rfl rfl rfl (Int.natCast_nonneg i) hg ?_)
      | (refine LexA.neA rfl rfl rfl rfl rfl rfl keySh (by exact heq) ?_)
      | refine WpA.seq ?_
      | refine WpA.region ?_
      | refine WpOps.op _ rfl rfl rfl rfl rfl ?_
      | refine WpA.block ?_
      | refine WpOps.nil ?_
      | refine WpA.skip ?_
      | refine WpA.condF rfl ?_
      | refine WpA.draw (by kernel_rfl) ?_
      | refine LexA.op _ rfl rfl rfl rfl rfl ?_
      | refine LexA.nil ?_
    exact ⟨i + 1, hlt, by omega, ⟨rfl, rfl, congrArg (AV.int .i64) (wrap64 (by omega) (by omega)), trivial⟩, rfl⟩
  · have hd : decide (((i : Nat) : Int) < (((shRows l).length : Nat) : Int)) = false := decide_eq_false (by rw [hlen]; omega)
    repeat' first
      | refine WpA.condF (congrArg AV.bool hd) ?_
      | refine WpA.seq ?_
      | refine WpA.region ?_
      | refine WpOps.op _ rfl rfl rfl rfl rfl ?_
      | refine WpA.exit ?_
      | refine WpOps.nil ?_
      | refine WpA.ret ?_
    exact retK.ok rfl rfl rfl .bool
theorem sameSig_A (idx : Int) (ch pa : List (Nat → UInt8)) (H : List AObj) (h1 : ch.length ≤ 1000000) (h2 : pa.length ≤ 1000000) : CallsA E 24 [.agg (sigC idx (shRows ch) (shRows pa)), .agg (sigC idx (shRows ch) (shRows pa))] H (Is H (.bool true)) := by
  have c1 := fun X => sameShorts_A ch X h1
  have c2 := fun X => sameShorts_A pa X h2
  unfold sigC
  generalize shRows ch = rc at *
  generalize shRows pa = rp at *
  refine .enter Tryz.func24 rfl rfl rfl 24 Tryz.ntmps24 (Nat.le_of_ble_eq_true rfl) ?_
  repeat' first
    | (refine WpOps.eqT _ rfl rfl rfl rfl rfl rfl (by simp) ?_)
    | refine WpA.seq ?_
    | refine WpA.region ?_
    | refine WpOps.op _ rfl rfl rfl rfl rfl ?_
    | refine WpOps.box _ rfl rfl rfl rfl rfl ?_
    | (refine WpOps.call rfl rfl rfl rfl rfl (by exact c1 _) ?_; rintro _ _ ⟨rfl, rfl⟩)
    | (refine WpOps.call rfl rfl rfl rfl rfl (by exact c2 _) ?_; rintro _ _ ⟨rfl, rfl⟩)
    | refine WpOps.nil ?_
    | refine WpA.ret ?_
  exact retK.ok rfl rfl rfl .bool
theorem sameL_refl (l : List Sp) : sameL l l = true := by
  refine sameL_true rfl fun j hj => ?_
  unfold sameAt
  rw [List.getElem?_eq_getElem hj]
  unfold eqSpB eqAdB
  simp
theorem sameR_refl (r : Res) : sameR r r = true := by
  unfold sameR
  rw [sameL_refl, sameL_refl, sameL_refl]; rfl
structure Crt.wf (c : Crt) : Prop extends c.sm where
  chs : ∃ l, c.ch = shRows l
  pas : ∃ l, c.pa = shRows l
theorem certSame_A (c : Crt) (H : List AObj) (hc : c.wf) : CallsA E 10 [.agg c.cells, .agg c.cells] H (Is H (.bool true)) := by
  have c1 : ∀ X, CallsA E 23 [.agg [.sl .no 4 (spRows c.res.v4), .sl .no 4 (spRows c.res.v6), .sl .no 2 (asRows c.res.sy)], .agg [.sl .no 4 (spRows c.res.v4), .sl .no 4 (spRows c.res.v6), .sl .no 2 (asRows c.res.sy)]] X (Is X (.bool true)) := fun X => by
    have := refSame_A c.res c.res X hc.rs hc.ro hc.rs hc.ro
    rw [sameR_refl] at this
    exact this
  have c2 : ∀ X, CallsA E 24 [.agg [.int .i64 c.idx, .sl .no 16 c.ch, .sl .no 16 c.pa], .agg [.int .i64 c.idx, .sl .no 16 c.ch, .sl .no 16 c.pa]] X (Is X (.bool true)) := fun X => by
    obtain ⟨l, hl⟩ := hc.chs
    obtain ⟨m, hm⟩ := hc.pas
    have h1 := hc.ch
    have h2 := hc.pa
    rw [hl, shRows_len] at h1
    rw [hm, shRows_len] at h2
    rw [hl, hm]
    exact sameSig_A c.idx l m X (by omega) (by omega)
  clear hc
  obtain ⟨serial, issuer, subject, f, t, rt, height, ca, inherit, ⟨v4, v6, sy⟩, repo, man, notify, crl, parent, idx, ch, pa⟩ := c
  dsimp only at *
  have hw := eqWinR f t
  have hk := eqPubR rt height
  refine .enter Tryz.func10 rfl rfl rfl 103 Tryz.ntmps10 (Nat.le_of_ble_eq_true rfl) ?_
  repeat' first
    | (refine WpOps.eqT _ rfl rfl rfl rfl rfl rfl (by simp) ?_)
    | (refine WpOps.eqA rfl rfl rfl rfl rfl rfl keyWin (by exact hw) ?_)
    | (refine WpOps.eqA rfl rfl rfl rfl rfl rfl keyPub (by exact hk) ?_)
    | refine WpA.seq ?_
    | refine WpA.region ?_
    | refine WpOps.op _ rfl rfl rfl rfl rfl ?_
    | refine WpOps.box _ rfl rfl rfl rfl rfl ?_
    | (refine WpOps.call rfl rfl rfl rfl rfl (by exact c1 _) ?_; rintro _ _ ⟨rfl, rfl⟩)
    | (refine WpOps.call rfl rfl rfl rfl rfl (by exact c2 _) ?_; rintro _ _ ⟨rfl, rfl⟩)
    | refine WpOps.nil ?_
    | refine WpA.ret ?_
  exact retK.ok rfl rfl rfl .bool
end Go.Gp.Tryz
