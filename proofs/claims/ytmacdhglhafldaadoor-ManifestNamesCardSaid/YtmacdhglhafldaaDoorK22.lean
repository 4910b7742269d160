/- Part of a proof: GdO14, GdP1, GdO15, GdW1, GdW2, GdW3 -/
import Derived.Test.YtmacdhglhafldaaDoorK6
import Derived.Test.YtmacdhglhafldaaDoorK8
import Derived.Test.YtmacdhglhafldaaDoorK12
import Derived.Test.YtmacdhglhafldaaDoorK13
import Derived.Test.YtmacdhglhafldaaDoorK19
import Derived.Test.YtmacdhglhafldaaDoorK21
import Derived.KernelRfl

/- The octet codec: reading a value. -/
namespace Go.Gp.Tryd
open Go.Proofs
set_option linter.unusedVariables false
set_option linter.unusedSimpArgs false
set_option maxHeartbeats 4000000
set_option maxRecDepth 100000

def parseW (p : List UInt8 → Option (Oct × List UInt8)) : Nat → List UInt8 → Option (List Oct)
  | _, [] => some []
  | 0, _ :: _ => none
  | m + 1, c :: r => match p (c :: r) with
    | none => none
    | some (o, rest) => (parseW p m rest).map (o :: ·)

def parse : Nat → List UInt8 → Option (Oct × List UInt8)
  | 0, _ => none
  | _ + 1, [] => none
  | k + 1, tg :: r => match lenOf r with
    | none => none
    | some (n, r2) => if n ≤ r2.length then
        (if tg.toNat < 128 then some (.mk tg (r2.take n) [], r2.drop n) else (parseW (parse k) n (r2.take n)).map fun os => (.mk tg [] os, r2.drop n))
        else none

theorem lenOf_le {b : List UInt8} {n : Nat} {r : List UInt8} (h : lenOf b = some (n, r)) : r.length < b.length := by
  cases b with
  | nil => cases h
  | cons c b =>
    rw [lenOf_cons] at h
    split at h
    · injection h with h; injection h with h1 h2; subst h2; simp
    · split at h
      · injection h with h; injection h with h1 h2; subst h2; simp [List.length_drop]; omega
      · cases h

theorem parse_le : ∀ {k : Nat} {b : List UInt8} {o : Oct} {r : List UInt8}, parse k b = some (o, r) → r.length + 2 ≤ b.length
  | 0, _, _, _, h => by cases h
  | _ + 1, [], _, _, h => by cases h
  | k + 1, tg :: b, o, r, h => by
    unfold parse at h
    cases hl : lenOf b with
    | none => rw [hl] at h; cases h
    | some x =>
      obtain ⟨n, r2⟩ := x
      rw [hl] at h
      have := lenOf_le hl
      simp only at h
      split at h
      · split at h
        · injection h with h; injection h with h1 h2; subst h2; simp [List.length_drop]; omega
        · obtain ⟨os, _, h2⟩ := Option.map_eq_some_iff.1 h
          injection h2 with h1 h2; subst h2; simp [List.length_drop]; omega
      · cases h

theorem parseW_step {k m : Nat} {c : UInt8} {r : List UInt8} (hm : r.length ≤ m) : parseW (parse k) (m + 1) (c :: r) = match parse k (c :: r) with
    | none => none
    | some (o, rest) => (parseW (parse k) m rest).map (o :: ·) := rfl

theorem parseW_fuel {k : Nat} : ∀ {m m' : Nat} {b : List UInt8}, b.length ≤ m → b.length ≤ m' → parseW (parse k) m b = parseW (parse k) m' b
  | m, m', [], _, _ => by cases m <;> cases m' <;> rfl
  | 0, _, _ :: _, h, _ => by simp at h
  | _, 0, _ :: _, _, h => by simp at h
  | m + 1, m' + 1, c :: r, h, h' => by
    unfold parseW
    cases hp : parse k (c :: r) with
    | none => rfl
    | some x =>
      obtain ⟨o, rest⟩ := x
      have := parse_le hp
      simp only [List.length_cons] at this h h'
      have h9 := parseW_fuel (k := k) (m := m) (m' := m') (b := rest) (by omega) (by omega)
      simp only [h9]

def parseAll (k : Nat) (b : List UInt8) : Option (List Oct) := parseW (parse k) b.length b
theorem parseAll_nil (k : Nat) : parseAll k [] = some [] := rfl
theorem parseAll_cons (k : Nat) (c : UInt8) (r : List UInt8) : parseAll k (c :: r) = match parse k (c :: r) with
    | none => none
    | some (o, rest) => (parseAll k rest).map (o :: ·) := by
  unfold parseAll
  rw [List.length_cons, parseW_step (Nat.le_refl _)]
  cases hp : parse k (c :: r) with
  | none => rfl
  | some x =>
    obtain ⟨o, rest⟩ := x
    have := parse_le hp
    simp only [List.length_cons] at this
    simp only
    rw [parseW_fuel (m := r.length) (m' := rest.length) (by omega) (Nat.le_refl _)]

theorem parse_cons (k : Nat) (tg : UInt8) (r : List UInt8) : parse (k + 1) (tg :: r) = match lenOf r with
    | none => none
    | some (n, r2) => if n ≤ r2.length then
        (if tg.toNat < 128 then some (.mk tg (r2.take n) [], r2.drop n) else (parseAll k (r2.take n)).map fun os => (.mk tg [] os, r2.drop n))
        else none := by
  show (match lenOf r with | none => none | some (n, r2) => _) = _
  cases lenOf r with
  | none => rfl
  | some x =>
    obtain ⟨n, r2⟩ := x
    simp only
    split
    · rename_i hn
      rw [parseAll, List.length_take, Nat.min_eq_left hn]
    · rfl

/-- The value is read, and the reader is left like this; or it has died. -/
def valR (k : Nat) (b : List UInt8) (m j : Nat) (H : List AObj) : AEnd → List AObj → Prop := fun e H' => match parse k b with
  | some (o, r) => H' = H.set (m + j) (rdr r) ∧ e = .ret (.agg o.cells)
  | none => (∃ r, H' = H.set (m + j) (rdr r)) ∧ e = .panic errV

theorem valR_none {k : Nat} {b x : List UInt8} {m j : Nat} {H : List AObj} (h : parse k b = none) : valR k b m j H (.panic errV) (H.set (m + j) (rdr x)) := by
  unfold valR; rw [h]; exact ⟨⟨x, rfl⟩, rfl⟩
theorem valR_some {k : Nat} {b r : List UInt8} {o : Oct} {m j : Nat} {H : List AObj} (h : parse k b = some (o, r)) : valR k b m j H (.ret (.agg o.cells)) (H.set (m + j) (rdr r)) := by
  unfold valR; rw [h]; exact ⟨rfl, rfl⟩
theorem cellsL_snoc (os : List Oct) (o : Oct) : Oct.cellsL (os ++ [o]) = Oct.cellsL os ++ [o.cells] := by
  rw [cellsL_map, cellsL_map, List.map_append]; rfl

theorem value_A : ∀ (k : Nat) (b : List UInt8) (m j : Nat) (H : List AObj), k ≤ 12 → H[m + j]? = some (rdr b) → b.length ≤ 1000000000000 →
    CallsA E 76 [.ptr m j 0, .int .i64 ((13 - k : Nat) : Int)] H (valR k b m j H)
  | 0, b, m, j, H, hk, hH, hb => by
    have hm := get_lt hH
    refine .enter Tryd.func76 rfl rfl rfl 46 Tryd.ntmps76 (Nat.le_of_ble_eq_true rfl) ?_
    repeat' first
      | refine WpA.seq ?_
      | refine WpA.region ?_
      | refine WpOps.op _ rfl rfl rfl rfl rfl ?_
      | refine WpOps.alloc _ rfl rfl rfl rfl rfl rfl ?_
      | (refine must_op _ rfl rfl rfl rfl rfl rfl (fun h => ?_) (fun h => ?_))
      | refine WpOps.nil ?_
      | refine thenK.panic ?_
    · simp at h
    · refine retK.dies' rfl rfl (TrOk.refl H) (.iface (.agg (by simp))) ?_
      have := valR_none (k := 0) (b := b) (x := b) (m := m) (j := j) (H := H) rfl
      rwa [set_self hH] at this
  | k + 1, b, m, j, H, hk, hH, hb => by
    have hm := get_lt hH
    have ih := value_A k
    have hd1 : decide ((((13 - (k + 1) : Nat)) : Int) ≤ 12) = true := by simp; omega
    refine .enter Tryd.func76 rfl rfl rfl 46 Tryd.ntmps76 (Nat.le_of_ble_eq_true rfl) ?_
    cases b with
    | nil =>
      repeat' first
        | refine WpA.seq ?_
        | refine WpA.region ?_
        | refine WpOps.op _ rfl rfl rfl rfl rfl ?_
        | refine WpOps.alloc _ rfl rfl rfl rfl rfl rfl ?_
        | (refine must_op _ rfl rfl rfl rfl rfl (congrArg AV.bool hd1) (fun h => ?_) (fun h => by cases h))
        | (refine WpOps.callD rfl rfl rfl rfl rfl (by exact cut_bad [] 1 m j _ (by rw [List.getElem?_append_left hm]; exact hH) (by simp)) ?_; rintro _ rfl)
        | refine WpOps.nil ?_
        | refine thenK.panic ?_
      refine retK.dies' rfl rfl (TrOk.refl H) (.iface (.agg (by simp))) ?_
      have := valR_none (k := k + 1) (b := []) (x := []) (m := m) (j := j) (H := H) rfl
      rwa [set_self hH] at this
    | cons tg r =>
      obtain ⟨B1, hB1⟩ : ∃ B1, B1 = H.set (m + j) (rdr r) := ⟨_, rfl⟩
      have hB1l : H.length = B1.length := by rw [hB1]; simp
      have hm1 : m + j < B1.length := by omega
      have hB10 : B1[m + j]? = some (rdr r) := by rw [hB1]; exact List.getElem?_set_self hm
      have hr : r.length ≤ 1000000000000 := by simp only [List.length_cons] at hb; omega
      have hset1 : ∀ L : List AObj, (H ++ L).set (m + j) (rdr r) = B1 ++ L := fun L => by rw [hB1, List.set_append_left _ _ hm]
      have hset2 : ∀ (x : List UInt8) (L : List AObj), (B1 ++ L).set (m + j) (rdr x) = H.set (m + j) (rdr x) ++ L := fun x L => by rw [hB1, List.set_append_left _ _ (by simpa using hm), List.set_set]
      have hcut1 : ∀ L, CallsA E 91 [.ptr m j 0, .int .i64 1] (H ++ L) (fun e H' => H' = B1 ++ L ∧ e = .ret (.sl .no 1 [byteRow tg])) := fun L => by
        have := cut_ok (tg :: r) 1 m j (H ++ L) (by rw [List.getElem?_append_left hm]; exact hH) (by simp) hb
        refine this.mono ?_
        rintro e H' ⟨rfl, rfl⟩
        exact ⟨hset1 L, rfl⟩
      cases hl : lenOf r with
      | none =>
        have hp : parse (k + 1) (tg :: r) = none := by rw [parse_cons, hl]
        have hlen : ∀ L, CallsA E 92 [.ptr m j 0] (B1 ++ L) (fun e H' => (∃ x, H' = (B1 ++ L).set (m + j) (rdr x)) ∧ e = .panic errV) := fun L => by
          have := length_A r m j (B1 ++ L) (by rw [List.getElem?_append_left hm1]; exact hB10) hr
          unfold lenR at this
          rw [hl] at this
          exact this
        repeat' first
          | refine WpA.seq ?_
          | refine WpA.region ?_
          | refine WpOps.op _ rfl rfl rfl rfl rfl ?_
          | refine WpOps.alloc _ rfl rfl rfl rfl rfl rfl ?_
          | refine WpOps.store rfl rfl rfl rfl rfl rfl rfl rfl rfl rfl ?_
          | refine WpOps.build _ rfl rfl rfl rfl rfl ?_
          | (refine must_op _ rfl rfl rfl rfl rfl (congrArg AV.bool hd1) (fun h => ?_) (fun h => by cases h))
          | (refine WpOps.call rfl rfl rfl rfl rfl (by exact hcut1 _) ?_; rintro _ _ ⟨rfl, rfl⟩; rw [hB1l])
          | (refine WpOps.elem (byteRow tg) rfl rfl rfl rfl rfl rfl rfl rfl rfl (by decide) rfl ?_)
          | (refine WpOps.callD rfl rfl rfl rfl rfl (by exact hlen _) ?_; rintro _ ⟨x, rfl⟩; rw [hset2])
          | refine WpOps.nil ?_
          | refine thenK.panic ?_
        exact retK.dies' rfl (by simp) (TrOk.set1 (rdr_obd _)) (.iface (.agg (by simp))) (valR_none hp)
      | some x =>
        obtain ⟨n, r2⟩ := x
        have hr2 := lenOf_le hl
        obtain ⟨B2, hB2⟩ : ∃ B2, B2 = H.set (m + j) (rdr r2) := ⟨_, rfl⟩
        have hB2l : B1.length = B2.length := by rw [hB1, hB2]; simp
        have hm2 : m + j < B2.length := by omega
        have hB20 : B2[m + j]? = some (rdr r2) := by rw [hB2]; exact List.getElem?_set_self hm
        have hset3 : ∀ (x : List UInt8) (L : List AObj), (B2 ++ L).set (m + j) (rdr x) = H.set (m + j) (rdr x) ++ L := fun x L => by rw [hB2, List.set_append_left _ _ (by simpa using hm), List.set_set]
        have hlen : ∀ L, CallsA E 92 [.ptr m j 0] (B1 ++ L) (fun e H' => H' = B2 ++ L ∧ e = .ret (.int .i64 (n : Nat))) := fun L => by
          have := length_A r m j (B1 ++ L) (by rw [List.getElem?_append_left hm1]; exact hB10) hr
          unfold lenR at this
          rw [hl] at this
          refine this.mono ?_
          rintro e H' ⟨rfl, rfl⟩
          exact ⟨by rw [hset2, hB2], rfl⟩
        by_cases hn : n ≤ r2.length
        · obtain ⟨B3, hB3⟩ : ∃ B3, B3 = H.set (m + j) (rdr (r2.drop n)) := ⟨_, rfl⟩
          have hB3l : B2.length = B3.length := by rw [hB2, hB3]; simp
          have hcut2 : ∀ L, CallsA E 91 [.ptr m j 0, .int .i64 (n : Nat)] (B2 ++ L) (fun e H' => H' = B3 ++ L ∧ e = .ret (.sl .no 1 ((r2.take n).map byteRow))) := fun L => by
            have := cut_ok r2 n m j (B2 ++ L) (by rw [List.getElem?_append_left hm2]; exact hB20) hn (by omega)
            refine this.mono ?_
            rintro e H' ⟨rfl, rfl⟩
            exact ⟨by rw [hset3, hB3], rfl⟩
          obtain ⟨ct, hct⟩ : ∃ ct, ct = r2.take n := ⟨_, rfl⟩
          have hctl : ct.length ≤ 1000000000000 := by rw [hct, List.length_take]; omega
          rw [← hct] at hcut2
          repeat' first
            | refine WpA.seq ?_
            | refine WpA.region ?_
            | refine WpOps.op _ rfl rfl rfl rfl rfl ?_
            | refine WpOps.alloc _ rfl rfl rfl rfl rfl rfl ?_
            | refine WpOps.store rfl rfl rfl rfl rfl rfl rfl rfl rfl rfl ?_
            | refine WpOps.build _ rfl rfl rfl rfl rfl ?_
            | (refine must_op _ rfl rfl rfl rfl rfl (congrArg AV.bool hd1) (fun h => ?_) (fun h => by cases h))
            | (refine WpOps.call rfl rfl rfl rfl rfl (by exact hcut1 _) ?_; rintro _ _ ⟨rfl, rfl⟩; rw [hB1l])
            | (refine WpOps.elem (byteRow tg) rfl rfl rfl rfl rfl rfl rfl rfl rfl (by decide) rfl ?_)
            | (refine WpOps.call rfl rfl rfl rfl rfl (by exact hlen _) ?_; rintro _ _ ⟨rfl, rfl⟩; rw [hB2l])
            | (refine WpOps.call rfl rfl rfl rfl rfl (by exact hcut2 _) ?_; rintro _ _ ⟨rfl, rfl⟩; rw [hB3l])
            | refine WpOps.nil ?_
          clear hcut1 hcut2 hlen hset1 hset2 hset3
          refine WpA.cond _ rfl (fun h => ?_) (fun h => ?_)
          · have ht : tg.toNat < 128 := by simp at h; omega
            have hp : parse (k + 1) (tg :: r) = some (.mk tg ct [], r2.drop n) := by
              rw [parse_cons, hl]
              show (if n ≤ r2.length then _ else none) = _
              rw [if_pos hn, if_pos ht, hct]
            have hCl : ∀ H, CallsA E 86 [.sl .no 1 (ct.map byteRow)] H (Is H (.sl .no 1 (ct.map byteRow))) := fun H => CloneB_A _ H (by simp; omega) (bd_slB _)
            repeat' first
              | refine WpA.seq ?_
              | refine WpA.region ?_
              | refine WpOps.op _ rfl rfl rfl rfl rfl ?_
              | refine WpOps.store rfl rfl rfl rfl rfl rfl rfl rfl rfl rfl ?_
              | (refine WpOps.call rfl rfl rfl rfl rfl (by exact hCl _) ?_; rintro _ _ ⟨rfl, rfl⟩)
              | refine WpOps.nil ?_
              | refine WpA.ret ?_
            rw [hB3]
            exact retK.sub (.inr rfl) (by simp) (TrOk.set1 (rdr_obd _)) rfl (by show [(H.set _ _).length] = [H.length]; simp) (Sub.agg (vs := (Oct.mk tg ct []).cells) ⟨Sub.refl _, Sub.refl _, Sub.empty, trivial⟩) (Oct.bdA _ _) (valR_some hp)
          · have ht : ¬ tg.toNat < 128 := by simp at h; omega
            have hp : parse (k + 1) (tg :: r) = (parseAll k ct).map fun os => (.mk tg [] os, r2.drop n) := by
              rw [parse_cons, hl]
              show (if n ≤ r2.length then _ else none) = _
              rw [if_pos hn, if_neg ht, hct]
            clear h hB1l hB2l hB3l hB10 hB20
            have hB3m : m + j < B3.length := by rw [hB3]; simpa using hm
            repeat' first
              | refine WpA.seq ?_
              | refine WpA.region ?_
              | refine WpOps.op _ rfl rfl rfl rfl rfl ?_
              | refine WpOps.box _ rfl rfl rfl rfl rfl ?_
              | refine WpOps.build _ rfl rfl rfl rfl rfl ?_
              | refine WpA.block ?_
              | refine WpOps.nil ?_
              | refine WpA.skip ?_
            refine WpA.adoptC (j := 1) (q := 2) 3 rfl rfl ?_
            refine WpA.loopS (α := List Oct × List UInt8) (fun p => [(1, .int .i64 ((13 - (k + 1) : Nat) : Int)), (4, .ptr B3.length 0 0), (5, .ptr B3.length 1 0), (7, .ptr B3.length 2 0)])
              (fun p => B3 ++ [.cells [.int .u8 0, .sl .full 0 [], .sl .full 0 []], .cells [u8 tg, .sl .full 0 [], .sl (.row B3.length 3) 3 (Oct.cellsL p.1)], rdr p.2, .tail (Oct.cellsL p.1).length 3])
              (fun p => parseAll k ct = (parseAll k p.2).map (p.1 ++ ·) ∧ p.1.length + p.2.length ≤ ct.length) (fun p => p.2.length) ([], ct) ⟨by simp, by simp⟩ ⟨rfl, rfl, rfl, rfl, trivial⟩ rfl ?_
            rintro ⟨os, rem⟩ ⟨hinv, hle⟩
            dsimp only at hinv hle ⊢
            have harg : IntKind.i64.wrap (((13 - (k + 1) : Nat) : Int) + 1) = ((13 - k : Nat) : Int) := by rw [wrap64 (by omega) (by omega)]; omega
            cases rem with
            | nil =>
              repeat' first
                | refine WpA.seq ?_
                | refine WpA.region ?_
                | refine WpOps.op _ rfl rfl rfl rfl rfl ?_
                | refine WpOps.store rfl rfl rfl rfl rfl rfl rfl rfl rfl rfl ?_
                | refine WpA.exit ?_
                | refine WpOps.nil ?_
                | refine WpA.ret ?_
                | refine WpA.condF rfl ?_
              · rw [hinv] at hp
                have hp' : parse (k + 1) (tg :: r) = some (.mk tg [] os, r2.drop n) := by rw [hp, parseAll_nil]; simp
                rw [hB3]
                exact retK.sub (.inr rfl) (by simp) (TrOk.set1 (rdr_obd _)) rfl (by show [(H.set _ _).length] = [H.length]; simp) (Sub.agg (vs := (Oct.mk tg [] os).cells) ⟨Sub.refl _, Sub.empty, Sub.untag, trivial⟩) (Oct.bdA _ _) (valR_some hp')
            | cons c rem =>
              obtain ⟨L, hL⟩ : ∃ L : List AObj, L = [.cells [.int .u8 0, .sl .full 0 [], .sl .full 0 []], .cells [u8 tg, .sl .full 0 [], .sl (.row B3.length 3) 3 (Oct.cellsL os)], rdr (c :: rem), .tail (Oct.cellsL os).length 3] := ⟨_, rfl⟩
              have hv : CallsA E 76 [.ptr B3.length 2 0, .int .i64 (IntKind.i64.wrap (((13 - (k + 1) : Nat) : Int) + 1))] (B3 ++ L) (valR k (c :: rem) B3.length 2 (B3 ++ L)) := by
                rw [harg]
                exact ih (c :: rem) B3.length 2 (B3 ++ L) (by omega) (by rw [hL]; exact app_get rfl rfl) (by simp at hle ⊢; omega)
              have hgt : decide ((((c :: rem).map byteRow).length : Int) > 0) = true := by simp
              unfold valR at hv
              simp only [set_app] at hv
              rw [hL] at hv
              cases hq : parse k (c :: rem) with
              | none =>
                rw [hq] at hv
                have hp' : parse (k + 1) (tg :: r) = none := by rw [hp, hinv, parseAll_cons, hq]; rfl
                repeat' first
                  | refine WpA.seq ?_
                  | refine WpA.region ?_
                  | refine WpOps.op _ rfl rfl rfl rfl rfl ?_
                  | refine WpOps.nil ?_
                refine WpA.cond true (congrArg AV.bool hgt) (fun h => ?_) (fun h => by cases h)
                refine WpA.skip ?_
                refine WpA.block ?_
                refine WpA.drawX (P := fun H' => ∃ x, H' = B3 ++ List.set [.cells [.int .u8 0, .sl .full 0 [], .sl .full 0 []], .cells [u8 tg, .sl .full 0 [], .sl (.row B3.length 3) 3 (Oct.cellsL os)], rdr (c :: rem), .tail (Oct.cellsL os).length 3] 2 (rdr x)) (v := errV) [B3.length + 1] [0, 4, 0, 0, 0, 3, 0, 2, 0, 2] 5 [0, 1, 2, 3, 4] rfl (by kernel_rfl) ?_ ?_
                · repeat' first
                    | (refine LexD.op0 _ rfl rfl rfl rfl rfl rfl (fun _ => rfl) ?_)
                    | (refine LexD.load4 _ rfl rfl rfl rfl rfl rfl rfl (by simp) rfl rfl rfl rfl ?_)
                  exact LexD.call rfl rfl rfl rfl rfl hv
                · rintro _ ⟨x, rfl⟩
                  rw [hB3]
                  repeat' first
                    | refine thenK.panic ?_
                    | refine blockK.panic ?_
                  exact retK.dies' rfl (by simp) (TrOk.set1 (rdr_obd _)) (.iface (.agg (by simp))) (valR_none hp')
              | some x =>
                obtain ⟨o, rest⟩ := x
                rw [hq] at hv
                dsimp only at hv
                have hr3 := parse_le hq
                repeat' first
                  | refine WpA.seq ?_
                  | refine WpA.region ?_
                  | refine WpOps.op _ rfl rfl rfl rfl rfl ?_
                  | refine WpOps.nil ?_
                refine WpA.cond true (congrArg AV.bool hgt) (fun h => ?_) (fun h => by cases h)
                repeat' first
                  | refine WpA.drawI [B3.length + 1] [0, 4, 0, 0, 0, 3, 0, 2, 0, 2] (by kernel_rfl) (by kernel_rfl) ?_
                  | (refine LexH.call3 rfl rfl rfl rfl rfl rfl (by exact hv) (by exact Like.one fun _ h => h) ?_)
                  | refine WpA.block ?_
                  | refine WpA.skip ?_
                  | refine LexH.op0 _ rfl rfl rfl rfl rfl (fun _ => rfl) ?_
                  | refine LexH.load4 _ rfl rfl rfl rfl rfl rfl (by simp) rfl rfl rfl rfl ?_
                  | refine LexH.buildSlice _ rfl rfl rfl rfl rfl rfl rfl rfl rfl rfl rfl rfl ?_
                refine LexH.appR rfl rfl rfl rfl rfl rfl rfl rfl (fun k h => by cases h) rfl rfl rfl rfl rfl rfl ?_ ?_ ?_
                · intro y hy a ha
                  have hy' := List.mem_singleton.1 hy
                  subst hy'
                  have ha' : a ∈ o.cells := ha
                  simp only [Oct.cells, octA, List.mem_cons, List.not_mem_nil, or_false] at ha'
                  rcases ha' with rfl | rfl | rfl <;> rfl
                · show ((Oct.cellsL os).length + 1) * 56 ≤ _
                  rw [cellsL_length]
                  simp only [List.length_cons] at hle
                  omega
                repeat' first
                  | refine LexH.op0 _ rfl rfl rfl rfl rfl (fun _ => rfl) ?_
                  | refine LexH.store rfl rfl rfl rfl rfl rfl rfl rfl rfl rfl rfl ?_
                  | refine LexH.nil ?_
                refine ⟨(os ++ [o], rest), ⟨?_, ?_⟩, ?_, ⟨rfl, rfl, rfl, rfl, trivial⟩, ?_⟩
                · rw [hinv, parseAll_cons, hq]
                  simp only [Option.map_map]
                  congr 1
                  funext l
                  simp
                · simp only [List.length_append, List.length_cons, List.length_nil] at hle hr3 ⊢
                  omega
                · simp only [List.length_cons] at hr3 ⊢
                  omega
                · rw [cellsL_snoc]; rfl
        · have hp : parse (k + 1) (tg :: r) = none := by rw [parse_cons, hl]; exact if_neg hn
          have hcut2 : ∀ L, CallsA E 91 [.ptr m j 0, .int .i64 (n : Nat)] (B2 ++ L) (Dies (B2 ++ L) errV) := fun L => cut_bad r2 n m j (B2 ++ L) (by rw [List.getElem?_append_left hm2]; exact hB20) (by omega)
          repeat' first
            | refine WpA.seq ?_
            | refine WpA.region ?_
            | refine WpOps.op _ rfl rfl rfl rfl rfl ?_
            | refine WpOps.alloc _ rfl rfl rfl rfl rfl rfl ?_
            | refine WpOps.store rfl rfl rfl rfl rfl rfl rfl rfl rfl rfl ?_
            | refine WpOps.build _ rfl rfl rfl rfl rfl ?_
            | (refine must_op _ rfl rfl rfl rfl rfl (congrArg AV.bool hd1) (fun h => ?_) (fun h => by cases h))
            | (refine WpOps.call rfl rfl rfl rfl rfl (by exact hcut1 _) ?_; rintro _ _ ⟨rfl, rfl⟩; rw [hB1l])
            | (refine WpOps.elem (byteRow tg) rfl rfl rfl rfl rfl rfl rfl rfl rfl (by decide) rfl ?_)
            | (refine WpOps.call rfl rfl rfl rfl rfl (by exact hlen _) ?_; rintro _ _ ⟨rfl, rfl⟩; rw [hB2l])
            | (refine WpOps.callD rfl rfl rfl rfl rfl (by exact hcut2 _) ?_; rintro _ rfl)
            | refine WpOps.nil ?_
            | refine thenK.panic ?_
          rw [hB2]
          exact retK.dies' rfl (by simp) (TrOk.set1 (rdr_obd _)) (.iface (.agg (by simp))) (valR_none hp)
end Go.Gp.Tryd

/- The octet codec: what is read is an encoding. -/
namespace Go.Gp.Tryd
open Go.Proofs
set_option linter.unusedVariables false
set_option linter.unusedSimpArgs false
set_option maxRecDepth 100000

theorem beVal_split : ∀ (r : List UInt8) (x : Nat), beVal x r = x * 2 ^ (8 * r.length) + beVal 0 r
  | [], x => by simp [beVal]
  | b :: r, x => by
    rw [beVal, beVal, beVal_split r (256 * x + b.toNat), beVal_split r (256 * 0 + b.toNat), List.length_cons, show 8 * (r.length + 1) = 8 + 8 * r.length from by omega, Nat.pow_add]
    simp only [Nat.mul_zero, Nat.zero_add, Nat.add_mul]
    have : 256 * x * 2 ^ (8 * r.length) = x * (2 ^ 8 * 2 ^ (8 * r.length)) := by rw [← Nat.mul_assoc]; congr 1; omega
    omega

theorem beN_mod : ∀ (n x y : Nat), beN (y * 2 ^ (8 * n) + x) n = beN x n
  | 0, _, _ => rfl
  | n + 1, x, y => by
    have e : y * 2 ^ (8 * (n + 1)) = (y * 256) * 2 ^ (8 * n) := by
      rw [show 8 * (n + 1) = 8 + 8 * n from by omega, Nat.pow_add, ← Nat.mul_assoc]
    rw [beN, beN, e, beN_mod n x (y * 256)]
    congr 1
    have h : (y * 256 * 2 ^ (8 * n) + x) / 2 ^ (8 * n) = y * 256 + x / 2 ^ (8 * n) := by
      rw [Nat.add_comm, Nat.add_mul_div_right _ _ (Nat.two_pow_pos _), Nat.add_comm]
    rw [h]
    apply UInt8.toNat_inj.1
    rw [UInt8.toNat_ofNat', UInt8.toNat_ofNat']
    omega

theorem beN_beVal : ∀ (r : List UInt8), beN (beVal 0 r) r.length = r
  | [] => rfl
  | b :: r => by
    have h0 : beVal 0 r < 2 ^ (8 * r.length) := by have := beVal_lt r 0 0 (by decide); simpa using this
    rw [beVal, beVal_split, List.length_cons, beN, beN_mod, beN_beVal r]
    congr 1
    rw [Nat.add_comm, Nat.add_mul_div_right _ _ (Nat.two_pow_pos _), Nat.div_eq_of_lt h0]
    simp

theorem lenOf_sound {b r : List UInt8} {n : Nat} (h : lenOf b = some (n, r)) : b = lenB n ++ r := by
  cases b with
  | nil => cases h
  | cons c b =>
    rw [lenOf_cons] at h
    split at h
    · injection h with h; injection h with h1 h2; subst h1; subst h2
      rename_i hc
      rw [lenB, if_pos hc]; simp
    · split at h
      · rename_i h1 h2
        injection h with h; injection h with h3 h4; subst h3; subst h4
        obtain ⟨q1, q2, q3, q4⟩ := h2
        have hl : (b.take (c.toNat - 128)).length = c.toNat - 128 := by rw [List.length_take]; omega
        have hn : ¬ beVal 0 (b.take (c.toNat - 128)) < 128 := fun hlt => by
          rw [wide, if_pos hlt] at q4; omega
        have hw : wide (beVal 0 (b.take (c.toNat - 128))) - 1 = c.toNat - 128 := by omega
        rw [lenB, if_neg hn, hw]
        have := beN_beVal (b.take (c.toNat - 128))
        rw [hl] at this
        rw [this, List.cons_append, List.take_append_drop]
        congr 1
        apply UInt8.toNat_inj.1
        have := c.toNat_lt
        rw [UInt8.toNat_ofNat']
        omega
      · cases h

theorem parseW_sound {k : Nat} (hp : ∀ b o r, parse k b = some (o, r) → b = o.enc ++ r) : ∀ (m : Nat) (b : List UInt8) (os : List Oct), parseW (parse k) m b = some os → b = Oct.encL os
  | _, [], os, h => by
    have : os = [] := by cases ‹Nat› <;> (unfold parseW at h; injection h with h; exact h.symm)
    subst this; rw [encL_nil]
  | 0, _ :: _, _, h => by cases h
  | m + 1, c :: b, os, h => by
    unfold parseW at h
    cases hq : parse k (c :: b) with
    | none => rw [hq] at h; cases h
    | some x =>
      obtain ⟨o, rest⟩ := x
      rw [hq] at h
      simp only at h
      obtain ⟨os', h1, h2⟩ := Option.map_eq_some_iff.1 h
      subst h2
      rw [encL_cons, ← parseW_sound hp m rest os' h1]
      exact hp _ _ _ hq

theorem parse_sound : ∀ (k : Nat) (b : List UInt8) (o : Oct) (r : List UInt8), parse k b = some (o, r) → b = o.enc ++ r
  | 0, _, _, _, h => by cases h
  | _ + 1, [], _, _, h => by cases h
  | k + 1, tg :: b, o, r, h => by
    rw [parse_cons] at h
    cases hl : lenOf b with
    | none => rw [hl] at h; cases h
    | some x =>
      obtain ⟨n, r2⟩ := x
      rw [hl] at h
      simp only at h
      have hb := lenOf_sound hl
      split at h
      · rename_i hn
        have hlen : (r2.take n).length = n := by rw [List.length_take]; omega
        split at h
        · injection h with h; injection h with h1 h2; subst h1; subst h2
          have hz : Oct.sizeL [] = 0 := by simp [Oct.sizeL]
          show tg :: b = tg :: (lenB ((r2.take n).length + Oct.sizeL []) ++ (r2.take n ++ Oct.encL [])) ++ r2.drop n
          rw [hz, hlen, encL_nil, hb]
          simp
        · obtain ⟨os, h1, h2⟩ := Option.map_eq_some_iff.1 h
          injection h2 with h2 h3; subst h2; subst h3
          have hs := parseW_sound (parse_sound k) _ _ _ h1
          have hz : Oct.sizeL os = n := by rw [← encL_length, ← hs, hlen]
          show tg :: b = tg :: (lenB (([] : List UInt8).length + Oct.sizeL os) ++ ([] ++ Oct.encL os)) ++ r2.drop n
          rw [hz, ← hs, hb]
          simp
      · cases h

theorem parse_size {k : Nat} {b r : List UInt8} {o : Oct} (h : parse k b = some (o, r)) : o.size + r.length = b.length := by
  have := parse_sound k b o r h
  rw [this, List.length_append, enc_length]
end Go.Gp.Tryd

/- The octet codec: Decode. -/
namespace Go.Gp.Tryd
open Go.Proofs
set_option linter.unusedVariables false
set_option linter.unusedSimpArgs false
set_option maxHeartbeats 4000000
set_option maxRecDepth 100000

def zeroOct : Oct := .mk 0 [] []
/-- The value that bytes encode, and the error. -/
def decP (b : List UInt8) : Oct × Nat :=
  if 65536 < b.length then (zeroOct, 4) else match parse 12 b with
    | some (o, []) => if checkP o = 0 then (o, 0) else (zeroOct, 12)
    | _ => (zeroOct, 12)

abbrev zeroC : List AV := [.int .u8 0, .sl .full 0 [], .sl .full 0 []]

theorem Dec1_none (m p q : Nat) (H : List AObj) : DefA E 75 [.ptr m p 0, .ptr m q 0] H none (fun r H' => r = false ∧ H' = H) := by
  refine DefA.of_bare (DefA.enter (id := 0) rfl Tryd.func75 rfl rfl rfl 17 Tryd.ntmps75 (Nat.le_of_ble_eq_true rfl) rfl rfl rfl rfl ?_)
  repeat' first
    | refine WpA.seq ?_
    | refine WpA.region ?_
    | refine WpOps.op _ rfl rfl rfl rfl rfl ?_
    | (refine WpOps.p1 rfl rfl rfl (.ifaceNil true rfl rfl rfl rfl) ?_)
    | refine WpOps.nil ?_
    | refine WpA.skip ?_
    | refine WpA.condF rfl ?_
  exact ⟨H, [], rfl, rfl, TrOk.refl H, rfl, rfl⟩

theorem Dec1_some (m p q : Nat) (H : List AObj) (cs : List AV) (x : AV) (hc : cs.length = 3) (h1 : H[m + p]? = some (.cells cs)) (h2 : H[m + q]? = some (.cells [x])) (hpq : p ≠ q) :
    DefA E 75 [.ptr m p 0, .ptr m q 0] H (some errV) (fun r H' => r = true ∧ H' = (H.set (m + p) (.cells zeroC)).set (m + q) (.cells [.int .i64 12])) := by
  have h2' : ∀ y, (H.set (m + p) y)[m + q]? = some (.cells [x]) := fun y => by rw [List.getElem?_set_ne (by omega)]; exact h2
  have hle : Nat.ble (0 + 3) cs.length = true := by rw [hc]; rfl
  refine DefA.of_bare (DefA.enter (id := 0) rfl Tryd.func75 rfl rfl rfl 17 Tryd.ntmps75 (Nat.le_of_ble_eq_true rfl) rfl rfl rfl rfl ?_)
  repeat' first
    | refine WpA.seq ?_
    | refine WpA.region ?_
    | refine WpOps.op _ rfl rfl rfl rfl rfl ?_
    | refine WpOps.alloc _ rfl rfl rfl rfl rfl rfl ?_
    | refine WpOps.store rfl rfl rfl rfl rfl rfl rfl rfl rfl rfl ?_
    | refine WpOps.build _ rfl rfl rfl rfl rfl ?_
    | (refine WpOps.p1 rfl rfl rfl (.ifaceNil true rfl rfl rfl rfl) ?_)
    | (refine WpOps.assertOk _ rfl rfl rfl rfl rfl (fun h => by cases h) rfl ?_)
    | (refine WpOps.storeOut rfl rfl rfl rfl h1 rfl rfl rfl rfl hle ?_)
    | (refine WpOps.storeOut rfl rfl rfl rfl (h2' _) rfl rfl rfl rfl rfl ?_)
    | refine WpOps.nil ?_
    | refine WpA.skip ?_
    | refine WpA.condT rfl ?_
    | refine WpA.condF rfl ?_
  have e1 : putA cs 0 zeroC = zeroC := by
    show cs.take 0 ++ zeroC ++ cs.drop 3 = zeroC
    rw [List.drop_of_length_le (by omega)]; rfl
  refine ⟨(H.set (m + p) (.cells (putA cs 0 zeroC))).set (m + q) (.cells [.int .i64 12]), _, rfl, by simp, .set3 (TrOk.set1 (obd_cells ?_)) (obd_cells ?_), rfl, by rw [e1]⟩
  · rw [e1]
    intro a ha
    simp only [zeroC, List.mem_cons, List.not_mem_nil, or_false] at ha
    rcases ha with rfl | rfl | rfl
    · exact .int
    · exact .sl (fun _ _ e => by cases e) (by simp)
    · exact .sl (fun _ _ e => by cases e) (by simp)
  · intro a ha
    have := List.mem_singleton.1 ha
    subst this
    exact .int

theorem octDecode_A (b : List UInt8) (H : List AObj) (hb : b.length ≤ 1000000000000) :
    CallsA E 49 [.sl .no 1 (b.map byteRow)] H (Is H (.tup [.agg (decP b).1.cells, .int .i64 ((decP b).2 : Nat)])) := by
  have bd : ∀ (o : Oct) (e : Int), Bd H.length (.tup [.agg o.cells, .int .i64 e]) := fun o e => .tup fun x hx => by
    simp only [List.mem_cons, List.not_mem_nil, or_false] at hx
    rcases hx with rfl | rfl
    · exact Oct.bdA _ _
    · exact .int
  have hz : Sub (.agg zeroC) (.agg zeroOct.cells) := Sub.agg (vs := zeroOct.cells) ⟨Sub.refl _, Sub.empty, Sub.empty, trivial⟩
  refine CallsA.enterQ Tryd.func49 rfl rfl rfl Tryd.ntmps49 (Nat.le_of_ble_eq_true rfl) fun c hH ho => ?_
  refine WpQ.seq (post_ret rfl Tryd.ntmps49 hH ho) ?_
  repeat' first
    | refine WpA.region ?_
    | refine WpOps.alloc _ rfl rfl rfl rfl rfl rfl ?_
    | refine WpOps.nil ?_
  refine WpQ.seq (post_ret rfl Tryd.ntmps49 hH ho) ?_
  repeat' first
    | refine WpA.seq ?_
    | refine WpA.region ?_
    | refine WpOps.op _ rfl rfl rfl rfl rfl ?_
    | refine WpOps.store rfl rfl rfl rfl rfl rfl rfl rfl rfl rfl ?_
    | refine WpOps.nil ?_
    | refine WpA.ret ?_
    | refine WpA.skip ?_
    | refine WpA.cond _ rfl (fun h => ?_) (fun h => ?_)
  · have hd : decP b = (zeroOct, 4) := by
      rw [decP, if_pos]
      simp at h; omega
    rw [hd]
    exact retK.sub (.inr rfl) rfl (TrOk.refl H) (L := _) rfl rfl (Sub.tup (vs := [.agg zeroOct.cells, .int .i64 4]) ⟨hz, Sub.refl _, trivial⟩) (bd _ _) ⟨rfl, rfl⟩
  · have hlb : b.length ≤ 65536 := by simp at h; omega
    have hd0 : decP b = match parse 12 b with
      | some (o, []) => if checkP o = 0 then (o, 0) else (zeroOct, 12)
      | _ => (zeroOct, 12) := by rw [decP, if_neg (by omega)]
    -- the end, where it has died
    have hdie : ∀ (t : Slots) (v x : List AV) (L : List AObj), v.length = 3 → look t 2 = .ptr H.length 0 0 → look t 3 = .ptr H.length 1 0 → x.length = 1 → decP b = (zeroOct, 12) →
        defK E [.cell 2 92, .cell 3 33] H (Is H (.tup [.agg (decP b).1.cells, .int .i64 ((decP b).2 : Nat)])) 75 [.ptr H.length 0 0, .ptr H.length 1 0] (.panic errV) t (H ++ (.cells v :: .cells x :: L)) := by
      intro t v x L hv ht2 ht3 hx hd
      obtain ⟨x0, rfl⟩ : ∃ x0, x = [x0] := by
        match x, hx with
        | [x0], _ => exact ⟨x0, rfl⟩
      refine (Dec1_some H.length 0 1 (H ++ (.cells v :: .cells [x0] :: L)) v x0 hv (app_get rfl rfl) (app_get rfl rfl) (by decide)).mono ?_
      rintro r H' ⟨rfl, rfl⟩
      refine ⟨rfl, ?_⟩
      rw [set_app, set_app, hd]
      refine retK.sub (.inr rfl) rfl (TrOk.refl H) (L := .cells zeroC :: .cells [.int .i64 12] :: L) («as» := [.agg zeroC, .int .i64 12]) ?_ ?_ (Sub.tup (vs := [.agg zeroOct.cells, .int .i64 12]) ⟨hz, Sub.refl _, trivial⟩) (bd _ _) ⟨rfl, rfl⟩
      · simp only [resL, resA, ht2, ht3]
        rfl
      · simp only [resN, ht2, ht3]
        rfl
    refine WpQ.region ?_
    refine WpQO.p1 rfl rfl rfl (.op rfl rfl) ?_
    refine WpQO.defer rfl Tryd.ntmps49 hH ho rfl rfl rfl rfl ⟨_, _, Tryd.func75, rfl, rfl⟩ ?_
    have hv : ∀ z1 z2, CallsA E 76 [.ptr H.length 2 0, .int .i64 1] (H ++ [z1, z2, rdr b]) (valR 12 b H.length 2 (H ++ [z1, z2, rdr b])) := fun z1 z2 => value_A 12 b H.length 2 _ (by decide) (app_get rfl rfl) (by omega)
    unfold valR at hv
    simp only [set_app] at hv
    cases hq : parse 12 b with
    | none =>
      rw [hq] at hv hd0
      repeat' first
        | refine WpA.seq ?_
        | refine WpA.region ?_
        | refine WpOps.op _ rfl rfl rfl rfl rfl ?_
        | refine WpOps.box _ rfl rfl rfl rfl rfl ?_
        | refine WpOps.build _ rfl rfl rfl rfl rfl ?_
        | (refine WpOps.callD rfl rfl rfl rfl rfl (by exact hv _ _) ?_; rintro _ ⟨x, rfl⟩)
        | refine WpOps.nil ?_
        | refine thenK.panic ?_
      exact hdie _ _ _ _ rfl rfl rfl rfl hd0
    | some x =>
      obtain ⟨o, rest⟩ := x
      rw [hq] at hv hd0
      dsimp only at hv hd0
      have hsz := parse_size hq
      have hCk := fun H => octCheck_A o H (by omega)
      repeat' first
        | refine WpA.seq ?_
        | refine WpA.region ?_
        | refine WpOps.op _ rfl rfl rfl rfl rfl ?_
        | refine WpOps.box _ rfl rfl rfl rfl rfl ?_
        | refine WpOps.store rfl rfl rfl rfl rfl rfl rfl rfl rfl rfl ?_
        | refine WpOps.skip rfl rfl rfl ?_
        | refine WpOps.build _ rfl rfl rfl rfl rfl ?_
        | (refine WpOps.call rfl rfl rfl rfl rfl (by exact hCk _) ?_; rintro _ _ ⟨rfl, rfl⟩)
        | (refine WpOps.call rfl rfl rfl rfl rfl (by exact hv _ _) ?_; rintro _ _ ⟨rfl, rfl⟩)
        | (refine must_op _ rfl rfl rfl rfl rfl rfl (fun h => ?_) (fun h => ?_))
        | refine WpOps.gsplit _ rfl rfl rfl (fun h => ?_) (fun h => ?_)
        | refine WpOps.nil ?_
        | refine WpA.ret ?_
        | refine thenK.panic ?_
      · rename_i _ h0
        have hr : rest = [] := by simpa using h0
        have hc : checkP o = 0 := by simpa using h
        subst hr
        have hd : decP b = (o, 0) := by rw [hd0]; show (if checkP o = 0 then (o, 0) else (zeroOct, 12)) = _; rw [if_pos hc]
        refine (Dec1_none H.length 0 1 _).mono ?_
        rintro r H' ⟨rfl, rfl⟩
        refine ⟨rfl, ?_⟩
        rw [hd]
        exact retK.ok rfl rfl rfl (bd _ _)
      · rename_i _ h0
        have hr : rest = [] := by simpa using h0
        have hc : ¬ checkP o = 0 := by simpa using h
        subst hr
        have hd : decP b = (zeroOct, 12) := by rw [hd0]; show (if checkP o = 0 then (o, 0) else (zeroOct, 12)) = _; rw [if_neg hc]
        exact hdie _ _ _ _ rfl rfl rfl rfl hd
      · cases h
      · rename_i _ h0
        have hr : rest ≠ [] := by simpa using h0
        have hd : decP b = (zeroOct, 12) := by
          rw [hd0]
          cases rest with
          | nil => exact absurd rfl hr
          | cons c r => rfl
        exact hdie _ _ _ _ rfl rfl rfl rfl hd
end Go.Gp.Tryd

/- The manifest's checks: the walks. -/
namespace Go.Gp.Tryd
open Go.Proofs
set_option linter.unusedVariables false
set_option linter.unusedSimpArgs false

theorem key24 : KeyT Tryd.E 24 := ⟨by kernel_rfl, by kernel_rfl⟩
theorem key31 : KeyT Tryd.E 61 := ⟨by kernel_rfl, by kernel_rfl⟩
theorem key53 : KeyT Tryd.E 63 := ⟨by kernel_rfl, by kernel_rfl⟩

def isTime (t : Int) : Bool := decide (0 ≤ t) && decide (t ≤ 1099511627776)

theorem isTime_A (t : Int) (H : List AObj) : CallsA E 61 [.int .i64 t] H (Is H (.bool (isTime t))) := by
  refine .enter Tryd.func61 rfl rfl rfl 9 Tryd.ntmps61 (Nat.le_of_ble_eq_true rfl) ?_
  repeat' first
    | refine WpA.seq ?_
    | refine WpA.region ?_
    | refine WpOps.op _ rfl rfl rfl rfl rfl ?_
    | refine WpOps.skip rfl rfl rfl ?_
    | refine WpOps.gsplit _ rfl rfl rfl (fun h => ?_) (fun h => ?_)
    | refine WpOps.nil ?_
    | refine WpA.ret ?_
  all_goals (refine retK.ok rfl rfl ?_ .bool; simp [isTime, resV, forget, look] at h ⊢; omega)

/-- A letter of a name, as the reference has it. -/
def refLetter (b : UInt8) : Bool := (decide (97 ≤ b.toNat) && decide (b.toNat ≤ 122)) || (decide (48 ≤ b.toNat) && decide (b.toNat ≤ 57))

theorem letter_A (b : UInt8) (H : List AObj) : CallsA E 85 [u8 b] H (Is H (.bool (refLetter b))) := by
  refine .enter Tryd.func85 rfl rfl rfl 17 Tryd.ntmps85 (Nat.le_of_ble_eq_true rfl) ?_
  repeat' first
    | refine WpA.seq ?_
    | refine WpA.region ?_
    | refine WpOps.op _ rfl rfl rfl rfl rfl ?_
    | refine WpOps.skip rfl rfl rfl ?_
    | refine WpOps.gsplit _ rfl rfl rfl (fun h => ?_) (fun h => ?_)
    | refine WpOps.nil ?_
    | refine WpA.ret ?_
  all_goals (refine retK.ok rfl rfl (congrArg AV.bool ?_) .bool; simp at *; rw [Bool.eq_iff_iff]; simp [refLetter]; omega)

def okName (b : UInt8) : Bool := refLetter b || (decide (65 ≤ b.toNat) && decide (b.toNat ≤ 90)) || b.toNat == 45 || b.toNat == 95 || b.toNat == 46
def nameOk (s : List UInt8) (i : Nat) : Bool := (s.drop i).all okName

theorem nameOk_step {s : List UInt8} {i : Nat} (h : i < s.length) : nameOk s i = (okName s[i] && nameOk s (i + 1)) := by
  unfold nameOk
  rw [List.drop_eq_getElem_cons h, List.all_cons]

def name (s : List UInt8) : Bool := decide (1 ≤ s.length) && decide (s.length ≤ 40) && !(s == [46]) && !(s == [46, 46]) && nameOk s 0

theorem refName_A (s : List UInt8) (H : List AObj) : CallsA E 66 [.str s] H (Is H (.bool (name s))) := by
  refine .enter Tryd.func66 rfl rfl rfl 53 Tryd.ntmps66 (Nat.le_of_ble_eq_true rfl) ?_
  repeat' first
    | refine WpA.seq ?_
    | refine WpA.region ?_
    | refine WpOps.op _ rfl rfl rfl rfl rfl ?_
    | refine WpOps.skip rfl rfl rfl ?_
    | refine WpOps.gsplit _ rfl rfl rfl (fun h => ?_) (fun h => ?_)
    | refine WpA.block ?_
    | refine WpOps.nil ?_
    | refine WpA.ret ?_
    | refine WpA.skip ?_
    | refine WpA.condT rfl ?_
    | refine WpA.cond _ rfl (fun h => ?_) (fun h => ?_)
  · refine retK.ok rfl rfl (congrArg AV.bool ?_) .bool
    simp at *
    simp [name]; omega
  · refine retK.ok rfl rfl (congrArg AV.bool ?_) .bool
    simp at *
    simp [name]; omega
  · refine retK.ok rfl rfl (congrArg AV.bool ?_) .bool
    simp at *
    simp [name, *]
  · refine retK.ok rfl rfl (congrArg AV.bool ?_) .bool
    simp at *
    simp [name, *]
  · rename_i h1 h2 h3
    simp at h1 h2 h3 h
    refine WpA.loopS (α := Nat) (fun i => [(0, .str s), (3, .int .i64 i)]) (fun _ => H ++ []) (fun i => i ≤ s.length ∧ nameOk s 0 = nameOk s i) (fun i => s.length - i) 0 ⟨Nat.zero_le _, rfl⟩ ⟨rfl, rfl, trivial⟩ rfl ?_
    rintro i ⟨hi, hn⟩
    repeat' first
      | refine WpA.seq ?_
      | refine WpA.region ?_
      | refine WpOps.op _ rfl rfl rfl rfl rfl ?_
      | refine WpA.block ?_
      | refine WpA.exit ?_
      | refine WpOps.nil ?_
      | refine WpA.ret ?_
      | refine WpA.skip ?_
      | refine WpA.cond _ rfl (fun h => ?_) (fun h => ?_)
    · simp at h
      have hlt : i < s.length := h
      refine WpOps.indexS s[i] rfl rfl rfl rfl rfl rfl rfl (Int.natCast_nonneg i) (by simp) ?_
      have hd := nameOk_step hlt
      have hu : okName s[i] = (refLetter s[i] || (decide (65 ≤ s[i].toNat) && decide (s[i].toNat ≤ 90)) || s[i].toNat == 45 || s[i].toNat == 95 || s[i].toNat == 46) := rfl
      repeat' first
        | refine WpA.seq ?_
        | refine WpA.region ?_
        | refine WpOps.op _ rfl rfl rfl rfl rfl ?_
        | refine WpOps.skip rfl rfl rfl ?_
        | (refine WpOps.call rfl rfl rfl rfl rfl (by exact letter_A _ _) ?_; rintro _ _ ⟨rfl, rfl⟩)
        | refine WpOps.gsplit _ rfl rfl rfl (fun h => ?_) (fun h => ?_)
        | refine WpOps.nil ?_
        | refine WpA.ret ?_
        | refine WpA.skip ?_
        | refine WpA.condF rfl ?_
        | refine WpA.cond _ rfl (fun h => ?_) (fun h => ?_)
      all_goals first
        | (refine retK.ok rfl rfl (congrArg AV.bool ?_) .bool
           have hb : okName s[i] = false := by
             rw [hu]
             simp at *
             simp [*]
             omega
           rw [name, hn, hd, hb]; simp)
        | (refine ⟨i + 1, ⟨hlt, ?_⟩, by omega, ⟨rfl, congrArg (AV.int .i64) (wrap64 (by omega) (by omega)), trivial⟩, rfl⟩
           have hb : okName s[i] = true := by
             rw [hu]
             simp at *
             first
               | (simp [*]; done)
               | (simp [*]; omega)
           rw [hn, hd, hb]; simp)
    · refine retK.ok rfl rfl (congrArg AV.bool ?_) .bool
      simp at h
      rw [name, hn, nameOk, List.drop_eq_nil_of_le (by omega)]
      simp; exact ⟨⟨⟨by omega, by omega⟩, h3⟩, by assumption⟩
end Go.Gp.Tryd

/- The manifest's checks: names. -/
namespace Go.Gp.Tryd
open Go.Proofs
set_option linter.unusedVariables false
set_option linter.unusedSimpArgs false

def classOf (n : Nat) : Int :=
  if 97 ≤ n ∧ n ≤ 122 then 1 else if 65 ≤ n ∧ n ≤ 90 then 2 else if 48 ≤ n ∧ n ≤ 57 then 1 else if n = 45 then 3 else if n = 95 then 4 else if n = 46 then 5 else 0
def classCells : List AV := (List.range 256).map fun n => .int .u8 (classOf n)

theorem class_A (H : List AObj) : CallsA E 78 [] H (Is H (.agg classCells)) := by
  refine .enter Tryd.func78 rfl rfl rfl 2 Tryd.ntmps78 (Nat.le_of_ble_eq_true rfl) ?_
  refine WpA.seq ?_
  refine WpA.region ?_
  refine WpOps.alloc _ rfl rfl rfl rfl rfl rfl ?_
  refine WpOps.nil ?_
  refine WpA.seq ?_
  refine WpA.region ?_
  refine WpOps.build classCells rfl rfl rfl rfl (by kernel_rfl) ?_
  refine WpOps.store rfl rfl rfl rfl rfl rfl rfl (by kernel_rfl) (by kernel_rfl) (by kernel_rfl) ?_
  refine WpOps.nil ?_
  refine WpA.ret ?_
  refine retK.ok (show resL _ _ _ _ = some [.agg classCells] from ?_) rfl ?_ ?_
  · kernel_rfl
  · kernel_rfl
  · refine .agg fun e he => ?_
    obtain ⟨n, _, rfl⟩ := List.mem_map.1 he
    exact .int

theorem class_get (b : UInt8) : classCells[b.toNat]? = some (.int .u8 (classOf b.toNat)) := by
  have := b.toNat_lt
  rw [classCells, List.getElem?_map, List.getElem?_range (by omega)]
  rfl

theorem class_ok (b : UInt8) : (classOf b.toNat == 0) = !okName b := by
  have h : okName b = (((decide (97 ≤ b.toNat) && decide (b.toNat ≤ 122)) || (decide (48 ≤ b.toNat) && decide (b.toNat ≤ 57))) || (decide (65 ≤ b.toNat) && decide (b.toNat ≤ 90)) || b.toNat == 45 || b.toNat == 95 || b.toNat == 46) := rfl
  rw [h]
  generalize b.toNat = n
  rw [Bool.eq_iff_iff]
  unfold classOf
  simp
  repeat' split
  all_goals simp <;> omega

theorem Name_A (s : List UInt8) (H : List AObj) : CallsA E 56 [.str s] H (Is H (.bool (name s))) := by
  refine .enter Tryd.func56 rfl rfl rfl 32 Tryd.ntmps56 (Nat.le_of_ble_eq_true rfl) ?_
  repeat' first
    | refine WpA.seq ?_
    | refine WpA.region ?_
    | refine WpOps.op _ rfl rfl rfl rfl rfl ?_
    | refine WpOps.skip rfl rfl rfl ?_
    | refine WpOps.gsplit _ rfl rfl rfl (fun h => ?_) (fun h => ?_)
    | refine WpA.block ?_
    | refine WpOps.nil ?_
    | refine WpA.ret ?_
    | refine WpA.skip ?_
    | refine WpA.condT rfl ?_
    | refine WpA.cond _ rfl (fun h => ?_) (fun h => ?_)
  · refine retK.ok rfl rfl (congrArg AV.bool ?_) .bool
    simp at *
    simp [name]; omega
  · refine retK.ok rfl rfl (congrArg AV.bool ?_) .bool
    simp at *
    simp [name]; omega
  · refine retK.ok rfl rfl (congrArg AV.bool ?_) .bool
    simp at *
    simp [name, *]
  · refine retK.ok rfl rfl (congrArg AV.bool ?_) .bool
    simp at *
    simp [name, *]
  · rename_i h1 h2 h3
    simp at h1 h2 h3 h
    refine WpA.loopS (α := Nat) (fun i => [(0, .str s), (21, .int .i64 s.length), (22, .int .i64 i)]) (fun _ => H ++ []) (fun i => i ≤ s.length ∧ nameOk s 0 = nameOk s i) (fun i => s.length - i) 0 ⟨Nat.zero_le _, rfl⟩ ⟨rfl, rfl, rfl, trivial⟩ rfl ?_
    rintro i ⟨hi, hn⟩
    repeat' first
      | refine WpA.seq ?_
      | refine WpA.region ?_
      | refine WpOps.op _ rfl rfl rfl rfl rfl ?_
      | refine WpA.block ?_
      | refine WpA.exit ?_
      | refine WpOps.nil ?_
      | refine WpA.ret ?_
      | refine WpA.skip ?_
      | refine WpA.cond _ rfl (fun h => ?_) (fun h => ?_)
      | refine WpA.draw (by kernel_rfl) ?_
      | refine LexA.op _ rfl rfl rfl rfl rfl ?_
      | refine LexA.call rfl rfl rfl rfl rfl (by exact class_A _) ?_
    · simp at h
      have hlt : i < s.length := h
      have hd := nameOk_step hlt
      refine LexA.indexS s[i] rfl rfl rfl rfl rfl rfl rfl (Int.natCast_nonneg i) (by simp) ?_
      refine LexA.indexA (.int .u8 (classOf s[i].toNat)) rfl rfl rfl rfl rfl rfl rfl (Int.natCast_nonneg _) ?_ ?_ ?_
      · have := s[i].toNat_lt; omega
      · show classCells[((s[i].toNat : Int)).toNat * 1]? = _
        rw [Int.toNat_natCast, Nat.mul_one]
        exact class_get _
      repeat' first
        | refine WpA.seq ?_
        | refine WpA.region ?_
        | refine WpOps.op _ rfl rfl rfl rfl rfl ?_
        | refine WpOps.nil ?_
        | refine WpA.ret ?_
        | refine WpA.skip ?_
        | refine WpA.cond _ rfl (fun h => ?_) (fun h => ?_)
        | refine LexA.op _ rfl rfl rfl rfl rfl ?_
        | refine LexA.nil ?_
      · have hc : okName s[i] = false := by have := class_ok s[i]; rw [h] at this; simpa using this.symm
        refine retK.ok rfl rfl (congrArg AV.bool ?_) .bool
        rw [name, hn, hd, hc]; simp
      · have hc : okName s[i] = true := by have := class_ok s[i]; rw [h] at this; simpa using this.symm
        refine ⟨i + 1, ⟨hlt, ?_⟩, by omega, ⟨rfl, rfl, congrArg (AV.int .i64) (wrap64 (by omega) (by omega)), trivial⟩, rfl⟩
        rw [hn, hd, hc]; simp
    · refine retK.ok rfl rfl (congrArg AV.bool ?_) .bool
      simp at h
      rw [name, hn, nameOk, List.drop_eq_nil_of_le (by omega)]
      simp; exact ⟨⟨⟨by omega, by omega⟩, h3⟩, by assumption⟩
end Go.Gp.Tryd

/- The manifest's checks: windows, files. -/
namespace Go.Gp.Tryd
open Go.Proofs
set_option linter.unusedVariables false
set_option linter.unusedSimpArgs false

def win (f t : Int) : Bool := isTime f && isTime t && decide (f ≤ t)
def winCode (f t : Int) : Int := if win f t then 0 else 8

theorem refTime_A (t : Int) (H : List AObj) : CallsA E 65 [.int .i64 t] H (Is H (.bool (isTime t))) := by
  refine .enter Tryd.func65 rfl rfl rfl 9 Tryd.ntmps65 (Nat.le_of_ble_eq_true rfl) ?_
  repeat' first
    | refine WpA.seq ?_
    | refine WpA.region ?_
    | refine WpOps.op _ rfl rfl rfl rfl rfl ?_
    | refine WpOps.skip rfl rfl rfl ?_
    | refine WpOps.gsplit _ rfl rfl rfl (fun h => ?_) (fun h => ?_)
    | refine WpOps.nil ?_
    | refine WpA.ret ?_
  all_goals (refine retK.ok rfl rfl (congrArg AV.bool ?_) .bool; simp [isTime] at h ⊢; omega)

theorem winCheck_A (f t : Int) (H : List AObj) : CallsA E 29 [.agg [.int .i64 f, .int .i64 t]] H (Is H (.int .i64 (winCode f t))) := by
  refine .enter Tryd.func29 rfl rfl rfl 20 Tryd.ntmps29 (Nat.le_of_ble_eq_true rfl) ?_
  repeat' first
    | refine WpA.seq ?_
    | refine WpA.region ?_
    | refine WpOps.op _ rfl rfl rfl rfl rfl ?_
    | refine WpOps.box _ rfl rfl rfl rfl rfl ?_
    | refine WpOps.skip rfl rfl rfl ?_
    | (refine WpOps.call rfl rfl rfl rfl rfl (by exact isTime_A _ _) ?_; rintro _ _ ⟨rfl, rfl⟩)
    | refine WpOps.gsplit _ rfl rfl rfl (fun h => ?_) (fun h => ?_)
    | refine WpOps.nil ?_
    | refine WpA.ret ?_
    | refine WpA.skip ?_
    | refine WpA.condT rfl ?_
    | refine WpA.cond _ rfl (fun h => ?_) (fun h => ?_)
  all_goals (refine retK.ok rfl rfl (congrArg (AV.int .i64) ?_) .int; (try simp at *); simp [winCode, win, *])

theorem refWinCheck_A (f t : Int) (H : List AObj) : CallsA E 33 [.agg [.int .i64 f, .int .i64 t]] H (Is H (.int .i64 (winCode f t))) := by
  refine .enter Tryd.func33 rfl rfl rfl 18 Tryd.ntmps33 (Nat.le_of_ble_eq_true rfl) ?_
  repeat' first
    | refine WpA.seq ?_
    | refine WpA.region ?_
    | refine WpOps.op _ rfl rfl rfl rfl rfl ?_
    | refine WpOps.box _ rfl rfl rfl rfl rfl ?_
    | refine WpOps.skip rfl rfl rfl ?_
    | (refine WpOps.call rfl rfl rfl rfl rfl (by exact refTime_A _ _) ?_; rintro _ _ ⟨rfl, rfl⟩)
    | refine WpOps.gsplit _ rfl rfl rfl (fun h => ?_) (fun h => ?_)
    | refine WpOps.nil ?_
    | refine WpA.ret ?_
    | refine WpA.skip ?_
    | refine WpA.condF rfl ?_
    | refine WpA.cond _ rfl (fun h => ?_) (fun h => ?_)
  all_goals (refine retK.ok rfl rfl (congrArg (AV.int .i64) ?_) .int; (try simp at *); simp [winCode, win, *])

structure File where
  name : List UInt8
  h : Nat → UInt8

def File.hash (f : File) : List AV := (List.range 32).map fun i => u8 (f.h i)
def File.row (f : File) : List AV := .str f.name :: (List.range 32).map fun i => u8 (f.h i)

structure Man where
  v : Int
  a : Int
  b : Int
  fs : List File

def rows (fs : List File) : List (List AV) := fs.map File.row
def Man.cells (m : Man) (tg : Tag) : List AV := [.int .u64 m.v, .int .i64 m.a, .int .i64 m.b, .sl tg 33 (rows m.fs)]
abbrev Man.av (m : Man) (tg : Tag) : AV := .agg [.int .u64 m.v, .int .i64 m.a, .int .i64 m.b, .sl tg 33 (rows m.fs)]

theorem rows_length (fs : List File) : (rows fs).length = fs.length := List.length_map _
theorem rows_get {fs : List File} {i : Nat} (h : i < fs.length) : (rows fs)[((i : Int)).toNat]? = some (fs[i]).row := by
  rw [rows, List.getElem?_map, Int.toNat_natCast, List.getElem?_eq_getElem h]
  rfl

def greatFrom (m : Man) (i : Nat) : Bool := (m.fs.drop i).any fun f => decide (200 < f.name.length)
def great (m : Man) : Bool := decide (220 < m.fs.length) || greatFrom m 0

theorem great_A (m : Man) (tg : Tag) (H : List AObj) (hb : m.fs.length ≤ 1000000000000000) : CallsA E 9 [m.av tg] H (Is H (.bool (great m))) := by
  refine .enter Tryd.func9 rfl rfl rfl 23 Tryd.ntmps9 (Nat.le_of_ble_eq_true rfl) ?_
  repeat' first
    | refine WpA.seq ?_
    | refine WpA.region ?_
    | refine WpOps.op _ rfl rfl rfl rfl rfl ?_
    | refine WpOps.box _ rfl rfl rfl rfl rfl ?_
    | refine WpA.block ?_
    | refine WpOps.nil ?_
    | refine WpA.ret ?_
    | refine WpA.skip ?_
    | refine WpA.cond _ rfl (fun h => ?_) (fun h => ?_)
  · refine retK.ok rfl rfl (congrArg AV.bool ?_) .bool
    simp [rows_length] at h
    simp [great]; omega
  · simp [rows_length] at h
    refine WpA.loopS (α := Nat) (fun i => [(1, .ptr H.length 0 0), (3, .int .i64 i)]) (fun _ => H ++ [.cells (m.cells tg)]) (fun i => i ≤ m.fs.length ∧ greatFrom m 0 = greatFrom m i) (fun i => m.fs.length - i) 0 ⟨Nat.zero_le _, rfl⟩ ⟨rfl, rfl, trivial⟩ rfl ?_
    rintro i ⟨hi, hn⟩
    repeat' first
      | refine WpA.seq ?_
      | refine WpA.region ?_
      | refine WpOps.op _ rfl rfl rfl rfl rfl ?_
      | refine WpA.block ?_
      | refine WpA.exit ?_
      | refine WpOps.nil ?_
      | refine WpA.ret ?_
      | refine WpA.skip ?_
      | refine WpA.cond _ rfl (fun h => ?_) (fun h => ?_)
    · simp [rows_length] at h
      refine WpOps.elem (m.fs[i]).row rfl rfl rfl rfl rfl rfl rfl rfl rfl (Int.natCast_nonneg i) (rows_get h) ?_
      have hd : greatFrom m i = (decide (200 < (m.fs[i]).name.length) || greatFrom m (i + 1)) := by
        unfold greatFrom
        rw [List.drop_eq_getElem_cons h, List.any_cons]
      repeat' first
        | refine WpA.seq ?_
        | refine WpA.region ?_
        | refine WpOps.op _ rfl rfl rfl rfl rfl ?_
        | refine WpOps.nil ?_
        | refine WpA.ret ?_
        | refine WpA.skip ?_
        | refine WpA.cond _ rfl (fun h => ?_) (fun h => ?_)
      · refine retK.ok rfl rfl (congrArg AV.bool ?_) .bool
        simp at h
        rw [great, hn, hd]
        simp
        exact .inr (.inl (by omega))
      · refine ⟨i + 1, ⟨by omega, ?_⟩, by omega, ⟨rfl, congrArg (AV.int .i64) (wrap64 (by omega) (by omega)), trivial⟩, rfl⟩
        simp at h
        rw [hn, hd]
        simp
        omega
    · refine retK.ok rfl rfl (congrArg AV.bool ?_) .bool
      simp [rows_length] at h
      rw [great, hn, greatFrom, List.drop_eq_nil_of_le (by omega)]
      simp; omega

def Same (H : List AObj) (r : AV) : AEnd → List AObj → Prop := Is H r

theorem twin_A (m : Man) (tg : Tag) (H : List AObj) (hb : m.fs.length ≤ 1000) : CallsA E 11 [m.av tg] H (Is H (m.av .no)) := by
  refine .enter Tryd.func11 rfl rfl rfl 9 Tryd.ntmps11 (Nat.le_of_ble_eq_true rfl) ?_
  repeat' first
    | refine WpA.seq ?_
    | refine WpA.region ?_
    | refine WpOps.op _ rfl rfl rfl rfl rfl ?_
    | refine WpOps.box _ rfl rfl rfl rfl rfl ?_
    | refine WpOps.alloc _ rfl rfl rfl rfl rfl rfl ?_
    | refine WpOps.buildSlice [] rfl rfl rfl rfl rfl rfl rfl rfl rfl rfl rfl ?_
    | refine WpOps.nil ?_
  refine WpOps.appF rfl rfl rfl rfl rfl rfl rfl (fun k h => by cases h) rfl rfl rfl ?_ ?_
  · show (0 + (rows m.fs).length) * 48 ≤ _
    rw [rows_length]; omega
  repeat' first
    | refine WpA.seq ?_
    | refine WpA.region ?_
    | refine WpOps.op _ rfl rfl rfl rfl rfl ?_
    | refine WpOps.store rfl rfl rfl rfl rfl rfl rfl rfl rfl rfl ?_
    | refine WpOps.nil ?_
    | refine WpA.ret ?_
  refine retK.ok rfl rfl rfl (.agg ?_)
  intro e he
  simp at he
  rcases he with rfl | rfl | rfl | rfl
  · exact .int
  · exact .int
  · exact .int
  · refine .sl (fun _ _ e => by cases e) fun x hx e he => ?_
    obtain ⟨f, _, rfl⟩ := List.mem_map.1 hx
    rcases List.mem_cons.1 he with rfl | he
    · exact .str
    · obtain ⟨i, _, rfl⟩ := List.mem_map.1 he
      exact .int
end Go.Gp.Tryd
