/- Part of a proof: GhQ37, GhQ38, GhQ39 -/
import Derived.Test.YtlmjiblfmhaicaaGreatDoorK7
import Derived.Test.YtlmjiblfmhaicaaGreatDoorK9
import Derived.Test.YtlmjiblfmhaicaaGreatDoorK10
import Derived.Test.YtlmjiblfmhaicaaGreatDoorK12
import Derived.Test.YtlmjiblfmhaicaaGreatDoorK27

set_option linter.unusedSectionVars false

/- The reference's certificates: copies, great ones. -/
namespace Go.Gp.Tryz
variable [Inhabited MaxLenT]
open Go.Proofs
set_option linter.unusedVariables false
set_option linter.unusedSimpArgs false
set_option linter.unusedSectionVars false
set_option maxHeartbeats 4000000

theorem bd_shNo {n : Nat} (l : List (Nat → UInt8)) : Bd n (.sl .no 16 (shRows l)) := .sl (fun _ _ e => by cases e) fun x hx e he => by
  obtain ⟨f, _, rfl⟩ := List.mem_map.1 hx
  obtain ⟨v, rfl⟩ := shRow_int f e he
  exact .int
theorem bd_asNo {n : Nat} (l : List As) : Bd n (.sl .no 2 (asRows l)) := .sl (fun _ _ e => by cases e) fun x hx e he => by
  obtain ⟨a, _, rfl⟩ := List.mem_map.1 hx
  simp only [As.cells, List.mem_cons, List.not_mem_nil, or_false] at he
  rcases he with rfl | rfl <;> exact .int
theorem resTwin_A (r : Res) (H : List AObj) (hr : r.small) : CallsA E 12 [.agg r.cells] H (Is H (.agg r.cells)) := by
  have h4 := spRows_len r.v4
  have h6 := spRows_len r.v6
  have hs := asRows_len r.sy
  have b4 := fun n => bd_spNo (n := n) r.v4
  have b6 := fun n => bd_spNo (n := n) r.v6
  have bs := fun n => bd_asNo (n := n) r.sy
  obtain ⟨l4, l6, ls⟩ := hr
  unfold Res.cells
  rw [← h4] at l4
  rw [← h6] at l6
  rw [← hs] at ls
  generalize spRows r.v4 = r4 at *
  generalize spRows r.v6 = r6 at *
  generalize asRows r.sy = rs at *
  refine .enter Tryz.func12 rfl rfl rfl 16 Tryz.ntmps12 (Nat.le_of_ble_eq_true rfl) ?_
  repeat' first
    | refine WpA.drawI [H.length + 0] [0, 0, 4, 0, 0, 0, 4, 0, 0, 0, 4, 0, 0, 2] (by kernel_rfl) (by kernel_rfl) ?_
    | (refine LexH.buildSlice [] rfl rfl rfl rfl rfl rfl rfl rfl rfl rfl rfl rfl ?_)
    | (refine LexH.appF (xs := []) rfl rfl rfl rfl rfl rfl rfl rfl (fun k h => by cases h) rfl rfl rfl (by first | (show (0 + r4.length) * 32 ≤ _; omega) | (show (0 + r6.length) * 32 ≤ _; omega) | (show (0 + rs.length) * 8 ≤ _; omega)) ?_)
    | refine WpA.seq ?_
    | refine WpA.region ?_
    | refine WpOps.box _ rfl rfl rfl rfl rfl ?_
    | refine WpOps.alloc _ rfl rfl rfl rfl rfl rfl ?_
    | refine WpOps.nil ?_
    | refine WpA.ret ?_
    | refine LexH.op0 _ rfl rfl rfl rfl rfl (fun _ => rfl) ?_
    | refine LexH.load4 _ rfl rfl rfl rfl rfl rfl (by simp) rfl rfl rfl rfl ?_
    | refine LexH.build _ rfl rfl rfl rfl rfl rfl ?_
    | refine LexH.store rfl rfl rfl rfl rfl rfl rfl rfl rfl rfl rfl ?_
    | refine LexH.nil ?_
  refine retK.ok rfl rfl rfl (.agg fun x hx => ?_)
  simp only [List.mem_cons, List.not_mem_nil, or_false] at hx
  rcases hx with rfl | rfl | rfl
  · exact b4 _
  · exact b6 _
  · exact bs _
theorem sigTwin_A (idx : Int) (ch pa : List (List AV)) (H : List AObj) (h1 : ch.length ≤ 1000) (h2 : pa.length ≤ 1000) (b1 : ∀ n, Bd n (.sl .no 16 ch)) (b2 : ∀ n, Bd n (.sl .no 16 pa)) : CallsA E 13 [.agg (sigC idx ch pa)] H (Is H (.agg (sigC idx ch pa))) := by
  unfold sigC
  refine .enter Tryz.func13 rfl rfl rfl 14 Tryz.ntmps13 (Nat.le_of_ble_eq_true rfl) ?_
  repeat' first
    | refine WpA.drawI [H.length + 0] [0, 4, 0, 0, 4, 0, 0, 0, 4, 0, 0, 2] (by kernel_rfl) (by kernel_rfl) ?_
    | (refine LexH.buildSlice [] rfl rfl rfl rfl rfl rfl rfl rfl rfl rfl rfl rfl ?_)
    | (refine LexH.appF (xs := []) rfl rfl rfl rfl rfl rfl rfl rfl (fun k h => by cases h) rfl rfl rfl (by first | (show (0 + ch.length) * 16 ≤ _; omega) | (show (0 + pa.length) * 16 ≤ _; omega)) ?_)
    | refine WpA.seq ?_
    | refine WpA.region ?_
    | refine WpOps.box _ rfl rfl rfl rfl rfl ?_
    | refine WpOps.alloc _ rfl rfl rfl rfl rfl rfl ?_
    | refine WpOps.nil ?_
    | refine WpA.ret ?_
    | refine LexH.op0 _ rfl rfl rfl rfl rfl (fun _ => rfl) ?_
    | refine LexH.load4 _ rfl rfl rfl rfl rfl rfl (by simp) rfl rfl rfl rfl ?_
    | refine LexH.build _ rfl rfl rfl rfl rfl rfl ?_
    | refine LexH.store rfl rfl rfl rfl rfl rfl rfl rfl rfl rfl rfl ?_
    | refine LexH.nil ?_
  refine retK.ok rfl rfl rfl (.agg fun x hx => ?_)
  simp only [List.mem_cons, List.not_mem_nil, or_false] at hx
  rcases hx with rfl | rfl | rfl
  · exact .int
  · exact b1 _
  · exact b2 _
theorem cells_bd (c : Crt) (hc : c.wf) (n : Nat) : Bd n (.agg c.cells) := .agg fun x hx => by
  obtain ⟨l, hl⟩ := hc.chs
  obtain ⟨m, hm⟩ := hc.pas
  unfold Crt.cells at hx
  rcases List.mem_append.1 hx with hx | hx
  · simp only [Crt.head, List.mem_cons, List.not_mem_nil, or_false] at hx
    rcases hx with rfl | rfl | rfl | rfl | rfl
    · exact .int
    · exact .str
    · exact .str
    · exact .int
    · exact .int
  · rcases List.mem_append.1 hx with hx | hx
    · unfold keyC at hx
      rcases List.mem_append.1 hx with hx | hx
      · obtain ⟨k, _, rfl⟩ := List.mem_map.1 hx
        exact .int
      · have := List.mem_singleton.1 hx; subst this; exact .int
    · simp only [Crt.tail, List.mem_cons, List.not_mem_nil, or_false] at hx
      rcases hx with rfl | rfl | rfl | rfl | rfl | rfl | rfl | rfl | rfl | rfl | rfl | rfl | rfl
      · exact .bool
      · exact .bool
      · exact bd_spNo _
      · exact bd_spNo _
      · exact bd_asNo _
      · exact .str
      · exact .str
      · exact .str
      · exact .str
      · exact .str
      · exact .int
      · rw [hl]; exact bd_shNo _
      · rw [hm]; exact bd_shNo _
theorem certTwin_A (c : Crt) (H : List AObj) (hc : c.wf) : CallsA E 5 [.agg c.cells] H (Is H (.agg c.cells)) := by
  have c1 : ∀ X, CallsA E 12 [.agg [.sl .no 4 (spRows c.res.v4), .sl .no 4 (spRows c.res.v6), .sl .no 2 (asRows c.res.sy)]] X (Is X (.agg [.sl .no 4 (spRows c.res.v4), .sl .no 4 (spRows c.res.v6), .sl .no 2 (asRows c.res.sy)])) := fun X => resTwin_A c.res X hc.rs
  have c2 : ∀ X, CallsA E 13 [.agg [.int .i64 c.idx, .sl .no 16 c.ch, .sl .no 16 c.pa]] X (Is X (.agg [.int .i64 c.idx, .sl .no 16 c.ch, .sl .no 16 c.pa])) := fun X => by
    obtain ⟨l, hl⟩ := hc.chs
    obtain ⟨m, hm⟩ := hc.pas
    exact sigTwin_A c.idx c.ch c.pa X hc.ch hc.pa (fun n => by rw [hl]; exact bd_shNo _) (fun n => by rw [hm]; exact bd_shNo _)
  have hb := cells_bd c hc H.length
  clear hc
  obtain ⟨serial, issuer, subject, f, t, rt, height, ca, inherit, ⟨v4, v6, sy⟩, repo, man, notify, crl, parent, idx, ch, pa⟩ := c
  dsimp only at *
  refine .enter Tryz.func5 rfl rfl rfl 12 Tryz.ntmps5 (Nat.le_of_ble_eq_true rfl) ?_
  repeat' first
    | refine WpA.seq ?_
    | refine WpA.region ?_
    | refine WpOps.op _ rfl rfl rfl rfl rfl ?_
    | refine WpOps.box _ rfl rfl rfl rfl rfl ?_
    | refine WpOps.alloc _ rfl rfl rfl rfl rfl rfl ?_
    | refine WpOps.store rfl rfl rfl rfl rfl rfl rfl rfl rfl rfl ?_
    | (refine WpOps.call rfl rfl rfl rfl rfl (by exact c1 _) ?_; rintro _ _ ⟨rfl, rfl⟩)
    | (refine WpOps.call rfl rfl rfl rfl rfl (by exact c2 _) ?_; rintro _ _ ⟨rfl, rfl⟩)
    | refine WpOps.nil ?_
    | refine WpA.ret ?_
  refine retK.ok («as» := [.agg (Crt.cells ⟨serial, issuer, subject, f, t, rt, height, ca, inherit, ⟨v4, v6, sy⟩, repo, man, notify, crl, parent, idx, ch, pa⟩)]) (by kernel_rfl) rfl rfl hb
theorem greatSig_A (idx : Int) (ch pa : List (List AV)) (H : List AObj) : CallsA E 11 [.agg (sigC idx ch pa)] H (Is H (.bool (decide (((ch.length : Nat) : Int) > 60) || decide (((pa.length : Nat) : Int) > 60)))) := by
  unfold sigC
  refine .enter Tryz.func11 rfl rfl rfl 13 Tryz.ntmps11 (Nat.le_of_ble_eq_true rfl) ?_
  repeat' first
    | refine WpA.seq ?_
    | refine WpA.region ?_
    | refine WpOps.op _ rfl rfl rfl rfl rfl ?_
    | refine WpOps.box _ rfl rfl rfl rfl rfl ?_
    | refine WpOps.skip rfl rfl rfl ?_
    | refine WpOps.gsplit _ rfl rfl rfl (fun h => ?_) (fun h => ?_)
    | refine WpOps.nil ?_
    | refine WpA.ret ?_
  all_goals
    refine retK.ok rfl rfl (congrArg AV.bool ?_) .bool
    simp_all
    try omega
def strsC (c : Crt) : List (List UInt8) := [c.issuer, c.subject, c.repo, c.man, c.notify, c.crl, c.parent]
def greatC (c : Crt) : Bool := (strsC c).any (fun s => decide (((s.length : Nat) : Int) > 500)) || (decide ((((spRows c.res.v4).length : Nat) : Int) > 210) || decide ((((spRows c.res.v6).length : Nat) : Int) > 210) || decide ((((asRows c.res.sy).length : Nat) : Int) > 210) || (decide (((c.ch.length : Nat) : Int) > 60) || decide (((c.pa.length : Nat) : Int) > 60)))
theorem great_cert_A (c : Crt) (H : List AObj) : CallsA E 4 [.agg c.cells] H (Is H (.bool (greatC c))) := by
  have c1 : ∀ X, CallsA E 11 [.agg [.int .i64 c.idx, .sl .no 16 c.ch, .sl .no 16 c.pa]] X (Is X (.bool (decide (((c.ch.length : Nat) : Int) > 60) || decide (((c.pa.length : Nat) : Int) > 60)))) := fun X => greatSig_A c.idx c.ch c.pa X
  unfold greatC
  have hget := fun i h => strRows_at (l := strsC c) (i := i) h
  have hl7 : (strsC c).length = 7 := rfl
  have hrl : (((strRows (strsC c)).length : Nat) : Int) = 7 := rfl
  have hrow : strRows (strsC c) = [[.str c.issuer], [.str c.subject], [.str c.repo], [.str c.man], [.str c.notify], [.str c.crl], [.str c.parent]] := rfl
  generalize hS : strsC c = ss at *
  clear hS
  generalize (decide (((c.ch.length : Nat) : Int) > 60) || decide (((c.pa.length : Nat) : Int) > 60)) = gs at *
  obtain ⟨serial, issuer, subject, f, t, rt, height, ca, inherit, ⟨v4, v6, sy⟩, repo, man, notify, crl, parent, idx, ch, pa⟩ := c
  dsimp only at *
  refine .enter Tryz.func4 rfl rfl rfl 56 Tryz.ntmps4 (Nat.le_of_ble_eq_true rfl) ?_
  repeat' first
    | refine WpA.seq ?_
    | refine WpA.region ?_
    | refine WpOps.op _ rfl rfl rfl rfl rfl ?_
    | refine WpOps.box _ rfl rfl rfl rfl rfl ?_
    | (refine WpOps.buildSlice _ rfl rfl rfl rfl rfl rfl rfl rfl rfl rfl rfl ?_)
    | refine WpA.block ?_
    | refine WpOps.nil ?_
  refine WpA.loopS (α := Nat) (fun i => [(1, .ptr H.length 0 0), (3, .sl .full 1 (strRows ss)), (4, .int .i64 (i : Nat))]) (fun _ => H ++ [.cells (Crt.cells ⟨serial, issuer, subject, f, t, rt, height, ca, inherit, ⟨v4, v6, sy⟩, repo, man, notify, crl, parent, idx, ch, pa⟩)]) (fun i => i ≤ 7 ∧ (ss.take i).any (fun s => decide (((s.length : Nat) : Int) > 500)) = false) (fun i => 7 - i) 0 ⟨Nat.zero_le _, rfl⟩ ⟨rfl, by rw [hrow]; rfl, rfl, trivial⟩ rfl (fun i hi => ?_)
  obtain ⟨hi1, hi2⟩ := hi
  by_cases hlt : i < 7
  · have hd : decide (((i : Nat) : Int) < (((strRows ss).length : Nat) : Int)) = true := decide_eq_true (by rw [hrl]; omega)
    have hg := hget i (by omega)
    have hsucc : (ss.take (i + 1)).any (fun s => decide (((s.length : Nat) : Int) > 500)) = decide ((((ss[i]'(by omega)).length : Nat) : Int) > 500) := by
      rw [List.take_succ_eq_append_getElem (by omega), List.any_append, hi2]; simp
    have hany : decide ((((ss[i]'(by omega)).length : Nat) : Int) > 500) = true → ss.any (fun s => decide (((s.length : Nat) : Int) > 500)) = true := fun h => List.any_eq_true.2 ⟨ss[i]'(by omega), List.getElem_mem (by omega), h⟩
    generalize ss[i]'(by omega) = s at *
    cases hb : decide (((s.length : Nat) : Int) > 500) with
    | true =>
      rw [hany hb, Bool.true_or]
      repeat' first
        | refine WpA.condT (congrArg AV.bool hd) ?_
        | refine WpA.condT (congrArg AV.bool hb) ?_
        | (refine WpOps.elem _ rfl rfl rfl rfl rfl rfl rfl rfl rfl (Int.natCast_nonneg i) hg ?_)
        | refine WpA.seq ?_
        | refine WpA.region ?_
        | refine WpOps.op _ rfl rfl rfl rfl rfl ?_
        | refine WpA.block ?_
        | refine WpOps.nil ?_
        | refine WpA.ret ?_
        | refine WpA.skip ?_
      exact retK.ok rfl rfl rfl .bool
    | false =>
      repeat' first
        | refine WpA.condT (congrArg AV.bool hd) ?_
        | refine WpA.condF (congrArg AV.bool hb) ?_
        | (refine WpOps.elem _ rfl rfl rfl rfl rfl rfl rfl rfl rfl (Int.natCast_nonneg i) hg ?_)
        | refine WpA.seq ?_
        | refine WpA.region ?_
        | refine WpOps.op _ rfl rfl rfl rfl rfl ?_
        | refine WpA.block ?_
        | refine WpOps.nil ?_
        | refine WpA.skip ?_
      exact ⟨i + 1, ⟨hlt, by rw [hsucc]; exact hb⟩, by omega, ⟨rfl, rfl, congrArg (AV.int .i64) (wrap64 (by omega) (by omega)), trivial⟩, rfl⟩
  · have hd : decide (((i : Nat) : Int) < (((strRows ss).length : Nat) : Int)) = false := decide_eq_false (by rw [hrl]; omega)
    rw [List.take_of_length_le (by omega)] at hi2
    rw [hi2, Bool.false_or]
    repeat' first
      | refine WpA.condF (congrArg AV.bool hd) ?_
      | refine WpA.seq ?_
      | refine WpA.region ?_
      | refine WpOps.op _ rfl rfl rfl rfl rfl ?_
      | refine WpOps.skip rfl rfl rfl ?_
      | (refine WpOps.call rfl rfl rfl rfl rfl (by exact c1 _) ?_; rintro _ _ ⟨rfl, rfl⟩)
      | refine WpOps.gsplit _ rfl rfl rfl (fun h => ?_) (fun h => ?_)
      | refine WpA.exit ?_
      | refine WpOps.nil ?_
      | refine WpA.ret ?_
    all_goals
      refine retK.ok rfl rfl (congrArg AV.bool ?_) .bool
      clear c1 hget
      simp_all
      try (intros; omega)
end Go.Gp.Tryz

/- Profiles: which forms a certificate has; Cert and Anchor of both. -/
namespace Go.Gp.Tryz
variable [Inhabited MaxLenT]
open Go.Proofs
set_option linter.unusedVariables false
set_option linter.unusedSimpArgs false
set_option linter.unusedSectionVars false
set_option maxHeartbeats 4000000

def orI (a b : Int) : Int := if a = 0 then b else a

theorem Or_A (a b : Int) (H : List AObj) : CallsA E 14 [.sl .full 1 [[.int .i64 a], [.int .i64 b]]] H (Is H (.int .i64 (orI a b))) := by
  refine .enter Tryz.func14 rfl rfl rfl 18 Tryz.ntmps14 (Nat.le_of_ble_eq_true rfl) ?_
  repeat' first
    | refine WpA.seq ?_
    | refine WpA.region ?_
    | refine WpOps.op _ rfl rfl rfl rfl rfl ?_
    | refine WpA.block ?_
    | refine WpOps.nil ?_
  refine WpA.loopFor 2 (fun i => [(3, .int .i64 0), (6, .sl .full 1 [[.int .i64 a], [.int .i64 b]]), (7, .int .i64 2), (8, .int .i64 (i : Nat))]) (fun _ => H ++ []) (fun i => (1 ≤ i → a = 0) ∧ (2 ≤ i → b = 0)) ⟨by omega, by omega⟩ ⟨rfl, rfl, rfl, rfl, trivial⟩ rfl (fun i hi hok => ?_) (fun hok => ?_)
  · rcases i with _ | _ | i
    · repeat' first
        | refine WpA.seq ?_
        | refine WpA.region ?_
        | refine WpOps.op _ rfl rfl rfl rfl rfl ?_
        | refine WpOps.elem [.int .i64 a] rfl rfl rfl rfl rfl rfl rfl rfl rfl (Int.natCast_nonneg _) rfl ?_
        | refine WpA.block ?_
        | refine WpOps.nil ?_
        | refine WpA.ret ?_
        | refine WpA.skip ?_
        | refine WpA.condT rfl ?_
        | refine WpA.cond _ rfl (fun h => ?_) (fun h => ?_)
      · refine retK.ok rfl rfl (congrArg (AV.int .i64) ?_) .int
        rw [orI, if_neg]
        simpa using h
      · have ha : a = 0 := by simpa using h
        exact ⟨⟨fun _ => ha, by omega⟩, ⟨rfl, rfl, rfl, rfl, trivial⟩, rfl⟩
    · have ha := hok.1 (Nat.le_refl _)
      repeat' first
        | refine WpA.seq ?_
        | refine WpA.region ?_
        | refine WpOps.op _ rfl rfl rfl rfl rfl ?_
        | refine WpOps.elem [.int .i64 b] rfl rfl rfl rfl rfl rfl rfl rfl rfl (Int.natCast_nonneg _) rfl ?_
        | refine WpA.block ?_
        | refine WpOps.nil ?_
        | refine WpA.ret ?_
        | refine WpA.skip ?_
        | refine WpA.condT rfl ?_
        | refine WpA.cond _ rfl (fun h => ?_) (fun h => ?_)
      · refine retK.ok rfl rfl (congrArg (AV.int .i64) ?_) .int
        rw [orI, if_pos ha]
      · have hb : b = 0 := by simpa using h
        exact ⟨⟨fun _ => ha, fun _ => hb⟩, ⟨rfl, rfl, rfl, rfl, trivial⟩, rfl⟩
    · omega
  · repeat' first
      | refine WpA.seq ?_
      | refine WpA.region ?_
      | refine WpOps.op _ rfl rfl rfl rfl rfl ?_
      | refine WpA.exit ?_
      | refine WpOps.nil ?_
      | refine WpA.ret ?_
      | refine WpA.condF rfl ?_
    refine retK.ok rfl rfl (congrArg (AV.int .i64) ?_) .int
    rw [orI, if_pos (hok.1 (by decide)), hok.2 (by decide)]
abbrev authS : List UInt8 := [97, 117, 116, 104, 111, 114, 105, 116, 121]
abbrev routS : List UInt8 := [114, 111, 117, 116, 101, 114]
abbrev rootS : List UInt8 := [114, 111, 111, 116]
abbrev endsS : List UInt8 := [101, 110, 100]
abbrev rulesM : List AEntry := [(.str authS, .func 60 [], 0), (.str routS, .func 61 [], 1), (.str rootS, .func 62 [], 2), (.str endsS, .func 63 [], 3)]
theorem rulesM_key : ∀ k, ∀ e ∈ rulesM.take k, keyK TD.str e.1 = true := fun k e he => by
  have he := List.mem_of_mem_take he
  simp only [rulesM, List.mem_cons, List.not_mem_nil, or_false] at he
  rcases he with rfl | rfl | rfl | rfl <;> rfl
theorem rules_A (H : List AObj) : CallsA E 38 [] H (fun e H' => H' = H ++ [.map rulesM 4] ∧ e = .ret (.map H.length 0)) := by
  refine .enter Tryz.func38 rfl rfl rfl 3 Tryz.ntmps38 (Nat.le_of_ble_eq_true rfl) ?_
  repeat' first
    | refine WpA.seq ?_
    | refine WpA.region ?_
    | refine WpOps.op _ rfl rfl rfl rfl rfl ?_
    | (refine WpOps.p1 rfl rfl rfl (.makeMap rfl) ?_)
    | (refine WpOps.u1h (H ++ [.map (rulesM.take 1) 1]) rfl rfl (.mapUpdate (.inr rfl) rfl rfl (app_get (j := 0) rfl rfl) rfl rfl rfl (rulesM_key 0)) (by rw [set_app]; rfl) ?_)
    | (refine WpOps.u1h (H ++ [.map (rulesM.take 2) 2]) rfl rfl (.mapUpdate (.inr rfl) rfl rfl (app_get (j := 0) rfl rfl) rfl rfl rfl (rulesM_key 1)) (by rw [set_app]; rfl) ?_)
    | (refine WpOps.u1h (H ++ [.map (rulesM.take 3) 3]) rfl rfl (.mapUpdate (.inr rfl) rfl rfl (app_get (j := 0) rfl rfl) rfl rfl rfl (rulesM_key 2)) (by rw [set_app]; rfl) ?_)
    | (refine WpOps.u1h (H ++ [.map rulesM 4]) rfl rfl (.mapUpdate (.inr rfl) rfl rfl (app_get (j := 0) rfl rfl) rfl rfl rfl (rulesM_key 3)) (by rw [set_app]; rfl) ?_)
    | refine WpOps.nil ?_
    | refine WpA.ret ?_
  exact retK.all (.inr rfl) rfl rfl (Sub.refl _) ⟨rfl, rfl⟩
def formE (c : Crt) (s : List UInt8) : Bool := if s = authS then authE c else if s = routS then routE c else rootE c
theorem fits1_A (c : Crt) (hc : c.wf) (s : List UInt8) (hs : s = authS ∨ s = routS ∨ s = rootS) (X : List AObj) :
    CallsA E 37 [.str s, .rp c.cells] X (Is X (.bool (formE c s))) := by
  have c1 := fun X => authority_A c X hc.tosm
  have c2 := fun X => router_A c X hc.tosm
  have c3 := fun X => root_A c X hc.tosm
  have hR : ∀ H0 : List AObj, H0.length = (X ++ []).length → CallsA E 38 [] H0 (fun x H1 => H1 = H0 ++ [.map rulesM 4] ∧ x = .ret (.map X.length 0)) := fun H0 h0 => by
    have h0' : H0.length = X.length := by simpa using h0
    have := rules_A H0
    rw [h0'] at this
    exact this
  have hk := rulesM_key 4
  refine .enter Tryz.func37 rfl rfl rfl 10 Tryz.ntmps37 (Nat.le_of_ble_eq_true rfl) ?_
  rcases hs with rfl | rfl | rfl
  · have hf : formE c authS = authE c := rfl
    rw [hf]
    repeat' first
      | refine WpA.drawI [] [6, 0, 1, 0, 0, 0, 0] (by kernel_rfl) (by kernel_rfl) ?_
      | refine WpA.seq ?_
      | refine WpA.region ?_
      | refine WpOps.op _ rfl rfl rfl rfl rfl ?_
      | (refine LexH.call6 [.map rulesM 4] rfl rfl rfl rfl rfl rfl (by exact hR) (by intro x hx z h; have := List.mem_singleton.1 hx; subst this; cases h) ?_)
      | (refine LexH.p1 rfl rfl rfl rfl (.lookupV rfl rfl rfl (app_get (j := 0) rfl rfl) rfl rfl hk rfl) ?_)
      | refine WpOps.nil ?_
      | refine WpA.ret ?_
      | refine LexH.op0 _ rfl rfl rfl rfl rfl (fun _ => rfl) ?_
      | refine LexH.build _ rfl rfl rfl rfl rfl rfl ?_
      | refine LexH.call0 rfl rfl rfl rfl rfl rfl (fun _ => by exact c1 _) ?_
      | refine LexH.nil ?_
    exact retK.ok rfl rfl rfl .bool
  · have hf : formE c routS = routE c := rfl
    rw [hf]
    repeat' first
      | refine WpA.drawI [] [6, 0, 1, 0, 0, 0, 0] (by kernel_rfl) (by kernel_rfl) ?_
      | refine WpA.seq ?_
      | refine WpA.region ?_
      | refine WpOps.op _ rfl rfl rfl rfl rfl ?_
      | (refine LexH.call6 [.map rulesM 4] rfl rfl rfl rfl rfl rfl (by exact hR) (by intro x hx z h; have := List.mem_singleton.1 hx; subst this; cases h) ?_)
      | (refine LexH.p1 rfl rfl rfl rfl (.lookupV rfl rfl rfl (app_get (j := 0) rfl rfl) rfl rfl hk rfl) ?_)
      | refine WpOps.nil ?_
      | refine WpA.ret ?_
      | refine LexH.op0 _ rfl rfl rfl rfl rfl (fun _ => rfl) ?_
      | refine LexH.build _ rfl rfl rfl rfl rfl rfl ?_
      | refine LexH.call0 rfl rfl rfl rfl rfl rfl (fun _ => by exact c2 _) ?_
      | refine LexH.nil ?_
    exact retK.ok rfl rfl rfl .bool
  · have hf : formE c rootS = rootE c := rfl
    rw [hf]
    repeat' first
      | refine WpA.drawI [] [6, 0, 1, 0, 0, 0, 0] (by kernel_rfl) (by kernel_rfl) ?_
      | refine WpA.seq ?_
      | refine WpA.region ?_
      | refine WpOps.op _ rfl rfl rfl rfl rfl ?_
      | (refine LexH.call6 [.map rulesM 4] rfl rfl rfl rfl rfl rfl (by exact hR) (by intro x hx z h; have := List.mem_singleton.1 hx; subst this; cases h) ?_)
      | (refine LexH.p1 rfl rfl rfl rfl (.lookupV rfl rfl rfl (app_get (j := 0) rfl rfl) rfl rfl hk rfl) ?_)
      | refine WpOps.nil ?_
      | refine WpA.ret ?_
      | refine LexH.op0 _ rfl rfl rfl rfl rfl (fun _ => rfl) ?_
      | refine LexH.build _ rfl rfl rfl rfl rfl rfl ?_
      | refine LexH.call0 rfl rfl rfl rfl rfl rfl (fun _ => by exact c3 _) ?_
      | refine LexH.nil ?_
    exact retK.ok rfl rfl rfl .bool
def fitsE (c : Crt) (names : List (List UInt8)) : Bool := !emptySig c.idx c.ch c.pa && names.any (formE c)
theorem fits_A (c : Crt) (hc : c.wf) (names : List (List UInt8)) (hn : ∀ s ∈ names, s = authS ∨ s = routS ∨ s = rootS) (hl : names.length ≤ 1000000) (H : List AObj) :
    CallsA E 17 [.agg c.cells, .sl .full 1 (strRows names)] H (Is H (.bool (fitsE c names))) := by
  have c1 : ∀ X, CallsA E 35 [.agg [.int .i64 c.idx, .sl .no 16 c.ch, .sl .no 16 c.pa]] X (Is X (.bool (emptySig c.idx c.ch c.pa))) := fun X => profEmpty_A c.idx c.ch c.pa X
  have c2 : ∀ X, CallsA E 36 [.sl .full 1 (strRows names), .func 37 [.rp c.cells]] X (Is X (.bool (names.any (formE c)))) := fun X => by
    have := containsS_A names (.func 37 [.rp c.cells]) (formE c) X hl (fun L s hs => AppA.of_calls (caps := [.rp c.cells]) (args := [.str s]) (fits1_A c hc s (hn s hs) (X ++ L)))
    exact CallsA.subL (vs := [.sl .no 1 (strRows names), .func 37 [.rp c.cells]]) ⟨Sub.untag, Sub.refl _, trivial⟩ this
  unfold fitsE
  generalize names.any (formE c) = an at *
  generalize emptySig c.idx c.ch c.pa = es at *
  generalize strRows names = rn at *
  clear hn hl hc
  obtain ⟨serial, issuer, subject, f, t, rt, height, ca, inherit, ⟨v4, v6, sy⟩, repo, man, notify, crl, parent, idx, ch, pa⟩ := c
  dsimp only at *
  refine .enter Tryz.func17 rfl rfl rfl 14 Tryz.ntmps17 (Nat.le_of_ble_eq_true rfl) ?_
  refine WpA.seq ?_
  repeat' first
    | refine WpA.region ?_
    | refine WpOps.op _ rfl rfl rfl rfl rfl ?_
    | refine WpOps.box _ rfl rfl rfl rfl rfl ?_
    | refine WpOps.nil ?_
  refine WpA.freezeP (d := 2) (j := 0) rfl rfl ?_
  repeat' first
    | refine WpA.seq ?_
    | refine WpA.region ?_
    | refine WpOps.op _ rfl rfl rfl rfl rfl ?_
    | refine WpOps.skip rfl rfl rfl ?_
    | (refine WpOps.call rfl rfl rfl rfl rfl (by exact c1 _) ?_; rintro _ _ ⟨rfl, rfl⟩)
    | (refine WpOps.call rfl rfl rfl rfl rfl (by exact c2 _) ?_; rintro _ _ ⟨rfl, rfl⟩)
    | refine WpOps.gsplit _ rfl rfl rfl (fun h => ?_) (fun h => ?_)
    | refine WpOps.nil ?_
    | refine WpA.ret ?_
  all_goals
    refine retK.ok rfl rfl (congrArg AV.bool ?_) .bool
    clear c1 c2
    simp_all
def profE (c : Crt) : Int := orI (certE c) (if fitsE c [authS, routS] then 0 else 8)
def ancE (c : Crt) : Int := orI (certE c) (if fitsE c [rootS] then 0 else 8)
theorem profCert_A (c : Crt) (hc : c.wf) (H : List AObj) : CallsA E 6 [.agg c.cells] H (Is H (.int .i64 (profE c))) := by
  have c1 := fun X => certCheck_A c X hc.tosm
  have c2 := fun X => fits_A c hc [authS, routS] (by simp) (by simp) X
  have c3 := fun b X => unless_A b X
  have c4 := fun a b X => Or_A a b X
  unfold profE
  generalize certE c = ce at *
  generalize fitsE c [authS, routS] = fe at *
  generalize hC : c.cells = cs at *
  refine .enter Tryz.func6 rfl rfl rfl 11 Tryz.ntmps6 (Nat.le_of_ble_eq_true rfl) ?_
  subst hC
  repeat' first
    | refine WpA.seq ?_
    | refine WpA.region ?_
    | refine WpOps.op _ rfl rfl rfl rfl rfl ?_
    | refine WpOps.box _ rfl rfl rfl rfl rfl ?_
    | (refine LexA.buildSlice _ rfl rfl rfl rfl rfl rfl rfl rfl rfl rfl rfl ?_)
    | refine WpOps.nil ?_
    | refine WpA.ret ?_
    | refine WpA.draw (by kernel_rfl) ?_
    | refine LexA.op _ rfl rfl rfl rfl rfl ?_
    | refine LexA.call rfl rfl rfl rfl rfl (by exact c1 _) ?_
    | refine LexA.call rfl rfl rfl rfl rfl (by exact c2 _) ?_
    | refine LexA.call rfl rfl rfl rfl rfl (by exact c3 _ _) ?_
    | refine LexA.call rfl rfl rfl rfl rfl (by exact c4 _ _ _) ?_
    | refine LexA.nil ?_
  exact retK.ok rfl rfl rfl .int
theorem profAnchor_A (c : Crt) (hc : c.wf) (H : List AObj) : CallsA E 8 [.agg c.cells] H (Is H (.int .i64 (ancE c))) := by
  have c1 := fun X => certCheck_A c X hc.tosm
  have c2 := fun X => fits_A c hc [rootS] (by simp) (by simp) X
  have c3 := fun b X => unless_A b X
  have c4 := fun a b X => Or_A a b X
  unfold ancE
  generalize certE c = ce at *
  generalize fitsE c [rootS] = fe at *
  generalize hC : c.cells = cs at *
  refine .enter Tryz.func8 rfl rfl rfl 11 Tryz.ntmps8 (Nat.le_of_ble_eq_true rfl) ?_
  subst hC
  repeat' first
    | refine WpA.seq ?_
    | refine WpA.region ?_
    | refine WpOps.op _ rfl rfl rfl rfl rfl ?_
    | refine WpOps.box _ rfl rfl rfl rfl rfl ?_
    | (refine LexA.buildSlice _ rfl rfl rfl rfl rfl rfl rfl rfl rfl rfl rfl ?_)
    | refine WpOps.nil ?_
    | refine WpA.ret ?_
    | refine WpA.draw (by kernel_rfl) ?_
    | refine LexA.op _ rfl rfl rfl rfl rfl ?_
    | refine LexA.call rfl rfl rfl rfl rfl (by exact c1 _) ?_
    | refine LexA.call rfl rfl rfl rfl rfl (by exact c2 _) ?_
    | refine LexA.call rfl rfl rfl rfl rfl (by exact c3 _ _) ?_
    | refine LexA.call rfl rfl rfl rfl rfl (by exact c4 _ _ _) ?_
    | refine LexA.nil ?_
  exact retK.ok rfl rfl rfl .int
theorem profE_eq (c : Crt) : profE c = if certE c ≠ 0 then certE c else if ((!emptySig c.idx c.ch c.pa && authE c) || (!emptySig c.idx c.ch c.pa && routE c)) then 0 else 8 := by
  have h1 : formE c authS = authE c := rfl
  have h2 : formE c routS = routE c := rfl
  unfold profE orI fitsE
  simp only [List.any_cons, List.any_nil, h1, h2, Bool.or_false]
  by_cases h : certE c = 0
  · simp only [h, if_true, ne_eq, not_true_eq_false, if_false]
    cases emptySig c.idx c.ch c.pa <;> cases authE c <;> cases routE c <;> rfl
  · simp only [h, if_false, ne_eq, not_false_eq_true, if_true]
theorem ancE_eq (c : Crt) : ancE c = if certE c ≠ 0 then certE c else if (!emptySig c.idx c.ch c.pa && rootE c) then 0 else 8 := by
  have h1 : formE c rootS = rootE c := rfl
  unfold ancE orI fitsE
  simp only [List.any_cons, List.any_nil, h1, Bool.or_false]
  by_cases h : certE c = 0
  · simp only [h, if_true, ne_eq, not_true_eq_false, if_false]
  · simp only [h, if_false, ne_eq, not_false_eq_true, if_true]
theorem refProfCert_A (c : Crt) (hc : c.wf) (H : List AObj) : CallsA E 7 [.agg c.cells] H (Is H (.int .i64 (profE c))) := by
  have c1 := fun X => refCertCheck_A c X hc.tosm
  have c2 := fun X => refAuthority_A c X hc.tosm
  have c3 := fun X => refRouter_A c X hc.tosm
  have c4 := fun e b X => bad_A e b X
  rw [profE_eq]
  generalize certE c = ce at *
  generalize (!emptySig c.idx c.ch c.pa && authE c) = b1 at *
  generalize (!emptySig c.idx c.ch c.pa && routE c) = b2 at *
  generalize hC : c.cells = cs at *
  refine .enter Tryz.func7 rfl rfl rfl 12 Tryz.ntmps7 (Nat.le_of_ble_eq_true rfl) ?_
  subst hC
  cases b1 with
  | true =>
    repeat' first
      | refine WpA.seq ?_
      | refine WpA.region ?_
      | refine WpOps.op _ rfl rfl rfl rfl rfl ?_
      | refine WpOps.box _ rfl rfl rfl rfl rfl ?_
      | refine WpOps.nil ?_
      | refine WpA.ret ?_
      | refine WpA.draw (by kernel_rfl) ?_
      | refine LexA.op _ rfl rfl rfl rfl rfl ?_
      | refine LexA.skip rfl rfl rfl ?_
      | refine LexA.call rfl rfl rfl rfl rfl (by exact c1 _) ?_
      | refine LexA.call rfl rfl rfl rfl rfl (by exact c2 _) ?_
      | refine LexA.call rfl rfl rfl rfl rfl (by exact c4 _ _ _) ?_
      | refine LexA.nil ?_
    exact retK.ok rfl rfl rfl .int
  | false =>
    repeat' first
      | refine WpA.seq ?_
      | refine WpA.region ?_
      | refine WpOps.op _ rfl rfl rfl rfl rfl ?_
      | refine WpOps.box _ rfl rfl rfl rfl rfl ?_
      | refine WpOps.nil ?_
      | refine WpA.ret ?_
      | refine WpA.draw (by kernel_rfl) ?_
      | refine LexA.op _ rfl rfl rfl rfl rfl ?_
      | refine LexA.call rfl rfl rfl rfl rfl (by exact c1 _) ?_
      | refine LexA.call rfl rfl rfl rfl rfl (by exact c2 _) ?_
      | refine LexA.call rfl rfl rfl rfl rfl (by exact c3 _) ?_
      | refine LexA.call rfl rfl rfl rfl rfl (by exact c4 _ _ _) ?_
      | refine LexA.nil ?_
    exact retK.ok rfl rfl rfl .int
theorem refProfAnchor_A (c : Crt) (hc : c.wf) (H : List AObj) : CallsA E 9 [.agg c.cells] H (Is H (.int .i64 (ancE c))) := by
  have c1 := fun X => refCertCheck_A c X hc.tosm
  have c2 := fun X => refRoot_A c X hc.tosm
  have c4 := fun e b X => bad_A e b X
  rw [ancE_eq]
  generalize certE c = ce at *
  generalize (!emptySig c.idx c.ch c.pa && rootE c) = b1 at *
  generalize hC : c.cells = cs at *
  refine .enter Tryz.func9 rfl rfl rfl 8 Tryz.ntmps9 (Nat.le_of_ble_eq_true rfl) ?_
  subst hC
  repeat' first
    | refine WpA.seq ?_
    | refine WpA.region ?_
    | refine WpOps.op _ rfl rfl rfl rfl rfl ?_
    | refine WpOps.box _ rfl rfl rfl rfl rfl ?_
    | refine WpOps.nil ?_
    | refine WpA.ret ?_
    | refine WpA.draw (by kernel_rfl) ?_
    | refine LexA.op _ rfl rfl rfl rfl rfl ?_
    | refine LexA.call rfl rfl rfl rfl rfl (by exact c1 _) ?_
    | refine LexA.call rfl rfl rfl rfl rfl (by exact c2 _) ?_
    | refine LexA.call rfl rfl rfl rfl rfl (by exact c4 _ _ _) ?_
    | refine LexA.nil ?_
  exact retK.ok rfl rfl rfl .int
end Go.Gp.Tryz

/- The law ProfileCerts: the walk. -/
namespace Go.Gp.Tryz
variable [Inhabited MaxLenT]
open Go.Proofs
set_option linter.unusedVariables false
set_option linter.unusedSimpArgs false
set_option linter.unusedSectionVars false
set_option maxHeartbeats 4000000

/-- What holds of a certificate, whatever its sizes. -/
structure Crt.any (c : Crt) : Prop where
  s0 : 0 ≤ c.serial
  ro : c.res.ok
  chs : ∃ l, c.ch = shRows l
  pas : ∃ l, c.pa = shRows l
theorem great_wf {c : Crt} (h : c.any) (hg : greatC c = false) : c.wf := by
  unfold greatC at hg
  rw [Bool.or_eq_false_iff] at hg
  obtain ⟨g1, g2⟩ := hg
  have hs : ∀ s ∈ strsC c, s.length ≤ 1000 := fun s hs => by
    have := List.any_eq_false.1 g1 s hs
    simp at this
    omega
  simp only [Bool.or_eq_false_iff, decide_eq_false_iff_not, spRows_len, asRows_len] at g2
  obtain ⟨⟨⟨a1, a2⟩, a3⟩, a4, a5⟩ := g2
  exact { s0 := h.s0, issuer := hs _ (by simp [strsC]), subject := hs _ (by simp [strsC]), rs := ⟨by omega, by omega, by omega⟩, ro := h.ro, repo := hs _ (by simp [strsC]), man := hs _ (by simp [strsC]), notify := hs _ (by simp [strsC]), crl := hs _ (by simp [strsC]), parent := hs _ (by simp [strsC]), ch := by omega, pa := by omega, chs := h.chs, pas := h.pas }
theorem profileCerts_A (c : Crt) (h : c.any) (H : List AObj) : CallsA E 3 [.agg c.cells] H (Is H (.bool true)) := by
  have c0 := fun X => great_cert_A c X
  cases hg : greatC c with
  | true =>
    rw [hg] at c0
    generalize hC : c.cells = cs at *
    refine .enter Tryz.func3 rfl rfl rfl 25 Tryz.ntmps3 (Nat.le_of_ble_eq_true rfl) ?_
    subst hC
    repeat' first
      | refine WpA.seq ?_
      | refine WpA.region ?_
      | refine WpOps.op _ rfl rfl rfl rfl rfl ?_
      | refine WpOps.box _ rfl rfl rfl rfl rfl ?_
      | (refine WpOps.call rfl rfl rfl rfl rfl (by exact c0 _) ?_; rintro _ _ ⟨rfl, rfl⟩)
      | refine WpOps.nil ?_
      | refine WpA.ret ?_
      | refine WpA.condT rfl ?_
    exact retK.ok rfl rfl rfl .bool
  | false =>
    have hc := great_wf h hg
    rw [hg] at c0
    have c1 := fun X => certTwin_A c X hc
    have c2 := fun X => profCert_A c hc X
    have c3 := fun X => refProfCert_A c hc X
    have c4 := fun X => profAnchor_A c hc X
    have c5 := fun X => refProfAnchor_A c hc X
    have c6 := fun X => certSame_A c X hc
    generalize profE c = pe at *
    generalize ancE c = ae at *
    clear h hg hc
    generalize hC : c.cells = cs at *
    refine .enter Tryz.func3 rfl rfl rfl 25 Tryz.ntmps3 (Nat.le_of_ble_eq_true rfl) ?_
    subst hC
    repeat' first
      | (refine LexA.eqT _ rfl rfl rfl rfl rfl rfl (by simp) ?_)
      | refine WpA.seq ?_
      | refine WpA.region ?_
      | refine WpOps.op _ rfl rfl rfl rfl rfl ?_
      | refine WpOps.box _ rfl rfl rfl rfl rfl ?_
      | refine WpOps.alloc _ rfl rfl rfl rfl rfl rfl ?_
      | refine WpOps.store rfl rfl rfl rfl rfl rfl rfl rfl rfl rfl ?_
      | (refine WpOps.call rfl rfl rfl rfl rfl (by exact c0 _) ?_; rintro _ _ ⟨rfl, rfl⟩)
      | (refine WpOps.call rfl rfl rfl rfl rfl (by exact c1 _) ?_; rintro _ _ ⟨rfl, rfl⟩)
      | refine WpOps.nil ?_
      | refine WpA.ret ?_
      | refine WpA.skip ?_
      | refine WpA.condF rfl ?_
      | refine WpA.draw (by kernel_rfl) ?_
      | refine LexA.op _ rfl rfl rfl rfl rfl ?_
      | refine LexA.call rfl rfl rfl rfl rfl (by exact c2 _) ?_
      | refine LexA.call rfl rfl rfl rfl rfl (by exact c3 _) ?_
      | refine LexA.call rfl rfl rfl rfl rfl (by exact c4 _) ?_
      | refine LexA.call rfl rfl rfl rfl rfl (by exact c5 _) ?_
      | refine LexA.call rfl rfl rfl rfl rfl (by exact c6 _) ?_
      | refine LexA.nil ?_
    exact retK.ok rfl rfl rfl .bool
end Go.Gp.Tryz
