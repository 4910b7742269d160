/- Part of a proof: GdS5, GdS6, GdF1 -/
import Derived.Test.YtmacdhglhafldaaDoorK20

/- Digests: the blocks of bytes, one by one. -/
namespace Go.Gp.Tryd
open Go.Proofs
set_option linter.unusedVariables false
set_option linter.unusedSimpArgs false
set_option maxHeartbeats 4000000
set_option maxRecDepth 100000

theorem full_app (a b : List UInt8) : full (a ++ b) = full a ++ full (left a ++ b) ∧ left (a ++ b) = left (left a ++ b) := by
  have : ∀ (n : Nat) (a : List UInt8), a.length = n → full (a ++ b) = full a ++ full (left a ++ b) ∧ left (a ++ b) = left (left a ++ b) := by
    intro n
    induction n using Nat.strongRecOn with
    | _ n ih =>
      intro a ha
      by_cases h : a.length < 64
      · have := full_short h
        rw [this.1, this.2]
        exact ⟨rfl, rfl⟩
      · have h1 : (a.take 64).length = 64 := by rw [List.length_take]; omega
        have h2 := full_one (m := a.drop 64) h1
        have h3 := full_one (m := a.drop 64 ++ b) h1
        rw [List.take_append_drop] at h2
        rw [← List.append_assoc, List.take_append_drop] at h3
        have h4 := ih (a.drop 64).length (by rw [List.length_drop]; omega) (a.drop 64) rfl
        rw [h2.1, h2.2, h3.1, h3.2, h4.1, h4.2]
        exact ⟨rfl, rfl⟩
  exact this _ a rfl
theorem full_mem {l : List UInt8} {b : List UInt8} (h : b ∈ full l) : b.length = 64 := by
  obtain ⟨i, hi, rfl⟩ := List.mem_map.1 h
  have := List.mem_range.1 hi
  rw [List.length_take, List.length_drop]; omega

def be8 (n : Nat) : List UInt8 := (List.range 8).map fun i => UInt8.ofNat (n / 2 ^ (56 - 8 * i))
def bitsOf (n : Nat) : Nat := 8 * n % 18446744073709551616
/-- The blocks of a message and of what is added to it. -/
def lastOf (c : List UInt8) (n : Nat) : List UInt8 := c ++ List.replicate (56 - c.length) 0 ++ be8 (bitsOf n)
def blocksOf (msg : List UInt8) : List (List UInt8) :=
  full (msg ++ [128]) ++ (if 56 < (left (msg ++ [128])).length then [blockOf (left (msg ++ [128])), lastOf [] msg.length] else [lastOf (left (msg ++ [128])) msg.length])
def partsA (ps : List (List UInt8)) : List (List AV) := ps.map fun p => [.sl .no 1 (p.map byteRow)]
theorem partsA_get {ps : List (List UInt8)} {i : Nat} (h : i < ps.length) : (partsA ps)[i]? = some [.sl .no 1 (ps[i].map byteRow)] := by
  rw [partsA, List.getElem?_map, List.getElem?_eq_getElem h]; rfl

theorem blocks_A (ps : List (List UInt8)) (H : List AObj) : CallsA E 80 [.sl .no 1 (partsA ps)] H (fun e H' => H' = H ++ [.cells [.sl .no 1 (partsA ps)]] ∧ e = .ret (.func 94 [.ptr H.length 0 0])) := by
  refine .enter Tryd.func80 rfl rfl rfl 4 Tryd.ntmps80 (Nat.le_of_ble_eq_true rfl) ?_
  repeat' first
    | refine WpA.seq ?_
    | refine WpA.region ?_
    | refine WpOps.op _ rfl rfl rfl rfl rfl ?_
    | refine WpOps.box _ rfl rfl rfl rfl rfl ?_
    | refine WpOps.nil ?_
    | refine WpA.ret ?_
  exact retK.all (.inr rfl) rfl rfl (Sub.refl _) ⟨rfl, rfl⟩

theorem putR_app {σ : Type} {f : σ → BItem → Bool × σ} {ok : σ → Prop} (hn : ∀ s x, ok s → bP x → (f s x).1 = true → ok (f s x).2) (ht : ∀ s x, ok s → bP x → (f s x).1 = true) (N q : Nat) (s : σ) (hs : ok s) (a b : List UInt8) :
    putR f N q (putR f N q s a) (left a ++ b) = putR f N q s (a ++ b) ∧ ok (putR f N q s a) := by
  have h := runIt_all hn ht ((full a).map fun b => (((N, q), b) : BItem)) ((full (left a ++ b)).map fun b => ((N, q), b)) s hs (fun x hx => by
    obtain ⟨b, hb, rfl⟩ := List.mem_map.1 hx
    exact full_mem hb)
  refine ⟨?_, h.2⟩
  rw [putR, putR, putR, (full_app a b).1, List.map_append, h.1]


def tailF (c : List UInt8) (n i : Nat) : List UInt8 := c ++ List.replicate (56 - c.length) 0 ++ ((be8 n).take i ++ List.replicate (8 - i) 0)
theorem tailF_zero {c : List UInt8} (h : c.length ≤ 56) (n : Nat) : tailF c n 0 = blockOf c := by
  rw [tailF, List.take_zero, List.nil_append, List.append_assoc, List.replicate_append_replicate, blockOf]
  congr 2
  omega
theorem be8_len (n : Nat) : (be8 n).length = 8 := by simp [be8]
theorem tailF_full (c : List UInt8) (n : Nat) : tailF c (bitsOf n) 8 = lastOf c n := by
  rw [tailF, List.take_of_length_le (by rw [be8_len]; exact Nat.le_refl _), lastOf]
  simp
theorem tailF_len {c : List UInt8} (h : c.length ≤ 56) (n : Nat) {i : Nat} (hi : i ≤ 8) : (tailF c n i).length = 64 := by
  simp [tailF, be8_len]; omega
theorem tailF_set {c : List UInt8} (h : c.length ≤ 56) (n : Nat) {i : Nat} (hi : i < 8) : ((tailF c n i).map u8).set (56 + i) (u8 (UInt8.ofNat (n / 2 ^ (56 - 8 * i)))) = (tailF c n (i + 1)).map u8 := by
  have hb : (be8 n)[i]'(by rw [be8_len]; exact hi) = UInt8.ofNat (n / 2 ^ (56 - 8 * i)) := by simp [be8]
  have hl : (c ++ List.replicate (56 - c.length) (0 : UInt8)).length = 56 := by simp; omega
  have e : 8 - i = (8 - (i + 1)) + 1 := by omega
  rw [← List.map_set]
  congr 1
  rw [tailF, tailF, List.set_append_right _ _ (by omega), hl]
  have e2 : 56 + i - 56 = i := by omega
  have hti : ((be8 n).take i).length = i := by rw [List.length_take, be8_len]; omega
  rw [e2, List.set_append_right _ _ (by omega), hti, Nat.sub_self, e, List.replicate_succ, List.set_cons_zero, List.take_succ_eq_append_getElem (by rw [be8_len]; exact hi), hb]
  simp
theorem obd_le {a b : Nat} {o : AObj} (hab : a ≤ b) (h : OBd a o) : OBd b o :=
  ⟨fun cs e a ha => (h.1 cs e a ha).le hab, fun es k e x hx => ⟨(h.2.1 es k e x hx).1.le hab, (h.2.1 es k e x hx).2.le hab⟩, fun r t e i => (h.2.2.1 r t e i).le hab, fun m j a s q e => Nat.lt_of_lt_of_le (h.2.2.2 m j a s q e) hab⟩
theorem TrOk.over {A A' L L' : List AObj} (hl : A'.length = A.length) (h : TrOk A A') (hL : ∀ (j : Nat) o, L'[j]? = some o → L[j]? = some o ∨ OBd (A ++ L).length o) : TrOk (A ++ L) (A' ++ L') := fun i o hi => by
  rcases Nat.lt_or_ge i A.length with hlt | hge
  · rw [List.getElem?_append_left (by omega)] at hi
    rcases h i o hi with h | h
    · exact .inl (by rw [List.getElem?_append_left hlt]; exact h)
    · exact .inr (obd_le (by rw [List.length_append]; omega) h)
  · rw [List.getElem?_append_right (by omega), hl] at hi
    rw [List.getElem?_append_right hge]
    exact hL _ _ hi
theorem blocks1_A (ps : List (List UInt8)) (hp : ps.length ≤ 1000000000) (hl : ps.flatten.length ≤ 140737488355328) (m q : Nat) :
    IterG E 94 [.ptr m q 0] (fun H => H[m + q]? = some (.cells [.sl .no 1 (partsA ps)])) true bArgs bPr bP (fun its => its.map (·.2) = blocksOf ps.flatten) := by
  intro yn yj σ Hf f ok hy hpre ht0 s X hs
  have ht := ht0 rfl
  have hpl : ∀ p ∈ ps, p.length ≤ ps.flatten.length := fun p hp => by
    exact (List.sublist_flatten_of_mem hp).length_le
  obtain ⟨N, hN0⟩ : ∃ N, (Hf s ++ X).length = N := ⟨_, rfl⟩
  have hN : ∀ s', (Hf s' ++ X).length = N := fun s' => by rw [List.length_append, hy.len s' s, ← List.length_append]; exact hN0
  have gx : ∀ (s' : σ) (x0 x1 x2 : AObj) k, ((Hf s' ++ X) ++ [x0, x1, x2])[N + k]? = [x0, x1, x2][k]? := fun s' x0 x1 x2 k => by
    rw [← hN s', List.getElem?_append_right (by omega)]; simp
  have st1 : ∀ (s' : σ) (x0 x1 x2 y : AObj), ((Hf s' ++ X) ++ [x0, x1, x2]).set (N + 1) y = (Hf s' ++ X) ++ [x0, y, x2] := fun s' x0 x1 x2 y => by
    rw [← hN s', List.set_append_right _ _ (by omega)]; simp
  let HB : σ → List UInt8 → List AObj := fun s' c => (Hf s' ++ X) ++ [AObj.cells [.yld yn yj], bytesB (blockOf c), .cells [.int .i64 (c.length : Nat)]]
  have hPut : ∀ (s' : σ) (c : List UInt8) (p : List UInt8) (tg : Tag), ok s' → c.length < 64 → p.length ≤ 140737488355328 → CallsA E 95 [.sl tg 1 (p.map byteRow), .ptr N 1 0, .ptr N 2 0, .ptr N 0 0] (HB s' c) (fun e H' => e = .ret (.tup []) ∧ H' = HB (putR f N 1 s' (c ++ p)) (left (c ++ p))) :=
    fun s' c p tg h1 h2 h3 => putB_A hy ht X N hN s' h1 c p h2 h3 tg
  have hpp := fun (a b : List UInt8) => putR_app hy.next ht N 1 s hs a b
  have hp0 := hpre s X
  have hlt := get_lt hp0
  have hz0 : HB (putR f N 1 s (ps.take 0).flatten) (left (ps.take 0).flatten) = (Hf s ++ X) ++ [AObj.cells [.yld yn yj], bytesB (blockOf []), .cells [.int .i64 (0 : Nat)]] := by
    rw [List.take_zero]
    have e : putR f N 1 s ([] : List (List UInt8)).flatten = s := rfl
    rw [e]
    rfl
  have hpsl : (partsA ps).length = ps.length := List.length_map _
  refine .enter Tryd.func94 rfl rfl rfl 53 Tryd.ntmps94 (Nat.le_of_ble_eq_true rfl) ?_
  repeat' first
    | refine WpA.seq ?_
    | refine WpA.region ?_
    | refine WpOps.op _ rfl rfl rfl rfl rfl ?_
    | refine WpOps.box _ rfl rfl rfl rfl rfl ?_
    | refine WpOps.alloc _ rfl rfl rfl rfl rfl rfl ?_
    | refine WpOps.store rfl rfl rfl rfl rfl rfl rfl rfl rfl rfl ?_
    | (refine WpOps.loadOut _ rfl rfl rfl rfl rfl hp0 rfl rfl rfl ?_)
    | refine WpA.block ?_
    | refine WpOps.nil ?_
  refine WpA.loopG ps.length (fun i => [(2, .ptr N 0 0), (3, .ptr N 1 0), (4, .ptr N 2 0), (5, .int .u64 ((ps.take i).flatten.length : Nat)), (6, .func 95 [.ptr N 1 0, .ptr N 2 0, .ptr N 0 0]), (11, .sl .no 1 (partsA ps)), (12, .int .i64 (ps.length : Nat)), (13, .int .i64 (i : Nat))])
    (fun i => HB (putR f N 1 s (ps.take i).flatten) (left (ps.take i).flatten)) (fun _ => True) trivial
    ⟨congrArg (fun n => AV.ptr n 0 0) hN0, congrArg (fun n => AV.ptr n 1 0) hN0, congrArg (fun n => AV.ptr n 2 0) hN0, rfl, congrArg (fun n => AV.func 95 [.ptr n 1 0, .ptr n 2 0, .ptr n 0 0]) hN0, rfl, by rw [← hpsl]; rfl, rfl, trivial⟩ (by rw [hz0]; rfl) (fun i _ => ?_) (fun i hi _ => ?_) (fun i hi _ => ?_) (fun i hi _ => ?_) (fun _ => ?_) (fun _ => ⟨rfl, rfl, rfl, rfl, rfl, rfl, rfl, rfl, trivial⟩)
  · show ((Hf _ ++ X) ++ [_, _, _]).length = ((Hf _ ++ X) ++ [_, _, _]).length
    have e : ∀ s' (l : List AObj), ((Hf s' ++ X) ++ l).length = N + l.length := fun s' l => by rw [List.length_append, hN]
    rw [e, e]; rfl
  · refine TrOk.over (by rw [hN, hN]) (hy.tr _ _ X) (fun j o hj => ?_)
    rcases j with _ | _ | _ | j
    · exact .inl hj
    · injection hj with hj; subst hj
      exact .inr (obd_cells fun a ha => by obtain ⟨x, _, rfl⟩ := List.mem_map.1 ha; exact .int)
    · injection hj with hj; subst hj
      exact .inr (obd_cells fun a ha => by have := List.mem_singleton.1 ha; subst this; exact .int)
    · cases hj
  · have e : (HB (putR f N 1 s (ps.take i).flatten) (left (ps.take i).flatten)).length = N + 3 := by
      show ((Hf _ ++ X) ++ [_, _, _]).length = _
      rw [List.length_append, hN]; rfl
    rw [e]
    have bs : Bd (N + 3) (.sl .no 1 (partsA ps)) := .sl (fun _ _ e => by cases e) fun x hx e he => by
      obtain ⟨p, _, rfl⟩ := List.mem_map.1 hx
      have := List.mem_singleton.1 he
      subst this
      exact bd_slB _
    refine ⟨.ptr (by omega), .ptr (by omega), .ptr (by omega), .int, .func ?_, bs, .int, .int, trivial⟩
    intro e he
    simp only [List.mem_cons, List.not_mem_nil, or_false] at he
    rcases he with rfl | rfl | rfl <;> exact .ptr (by omega)
  · have hput := hPut (putR f N 1 s (ps.take i).flatten) (left (ps.take i).flatten) ps[i] .no (hpp _ []).2 (left_len _) (Nat.le_trans (hpl _ (List.getElem_mem hi)) hl)
    have hge := partsA_get hi
    have htk : (ps.take (i + 1)).flatten = (ps.take i).flatten ++ ps[i] := by
      rw [List.take_succ_eq_append_getElem hi, List.flatten_append]; simp
    have hle1 : (ps.take (i + 1)).flatten.length ≤ ps.flatten.length := by
      have := congrArg (fun l => l.flatten.length) (List.take_append_drop (i + 1) ps)
      simp only [List.flatten_append, List.length_append] at this
      omega
    have hle2 := congrArg List.length htk
    rw [List.length_append] at hle2
    repeat' first
      | (refine WpOps.elem _ rfl rfl rfl rfl rfl rfl rfl rfl rfl (Int.natCast_nonneg i) hge ?_)
      | refine WpA.seq ?_
      | refine WpA.region ?_
      | refine WpOps.op _ rfl rfl rfl rfl rfl ?_
      | (refine WpOps.call rfl rfl rfl rfl rfl (by exact hput) ?_; rintro _ _ ⟨rfl, rfl⟩)
      | refine WpA.block ?_
      | refine WpA.exit ?_
      | refine WpOps.nil ?_
      | refine WpA.skip ?_
      | refine WpA.cond _ rfl (fun h => ?_) (fun h => ?_)
    · refine ⟨trivial, ⟨rfl, rfl, rfl, congrArg (AV.int .u64) ?_, rfl, rfl, rfl, congrArg (AV.int .i64) (wrap64 (by omega) (by omega)), trivial⟩, [], ?_⟩
      · rw [wrapu64 (x := ((ps[i].map byteRow).length : Nat)) (by omega) (by rw [List.length_map]; omega), List.length_map, wrapu64 (by omega) (by omega)]
        omega
      · rw [List.append_nil, (hpp _ _).1, ← htk, ← (full_app _ _).2, ← htk]
    · simp at h
      omega
  · obtain ⟨D, hD⟩ : ∃ D, D = ps.flatten ++ [128] := ⟨_, rfl⟩
    have htk : (ps.take ps.length).flatten = ps.flatten := by rw [List.take_length]
    rw [htk]
    have hput := hPut (putR f N 1 s ps.flatten) (left ps.flatten) [128] .full (hpp _ []).2 (left_len _) (by decide)
    rw [(hpp _ _).1, ← (full_app _ _).2, ← hD] at hput
    obtain ⟨σ1, hσ1⟩ : ∃ σ1, σ1 = putR f N 1 s D := ⟨_, rfl⟩
    obtain ⟨c1, hc1⟩ : ∃ c1, c1 = left D := ⟨_, rfl⟩
    rw [← hσ1, ← hc1] at hput
    have hok1 : ok σ1 := by rw [hσ1]; exact (hpp D []).2
    have hcl : c1.length < 64 := by rw [hc1]; exact left_len _
    repeat' first
      | refine WpA.seq ?_
      | refine WpA.region ?_
      | refine WpOps.op _ rfl rfl rfl rfl rfl ?_
      | refine WpA.block ?_
      | refine WpA.exit ?_
      | refine WpOps.nil ?_
      | refine WpA.skip ?_
      | refine WpA.cond _ rfl (fun h => ?_) (fun h => ?_)
    · simp at h
    repeat' first
      | refine WpA.seq ?_
      | refine WpA.region ?_
      | refine WpOps.op _ rfl rfl rfl rfl rfl ?_
      | (refine WpOps.buildSlice _ rfl rfl rfl rfl rfl rfl rfl rfl rfl rfl rfl ?_)
      | (refine WpOps.call rfl rfl rfl rfl rfl (by exact hput) ?_; rintro _ _ ⟨rfl, rfl⟩)
      | (refine WpOps.p1 rfl rfl rfl (.loadN (X := HB σ1 c1) rfl rfl (gx σ1 _ _ _ 2) rfl rfl rfl rfl) ?_)
      | refine WpOps.nil ?_
    show WpA E none 53 _ _ _ _
    obtain ⟨Z, hZ⟩ : ∃ Z, Z = List.replicate (64 - c1.length) (0 : UInt8) := ⟨_, rfl⟩
    have hcz : c1 ++ Z = blockOf c1 := by rw [hZ]; rfl
    have hbl := blockOf_len (l := c1) (by omega)
    have hfz := full_one (m := []) hbl
    rw [List.append_nil] at hfz
    have hbP1 : bP ((N, 1), blockOf c1) := hbl
    have hpz : putR f N 1 σ1 (c1 ++ Z) = (f σ1 ((N, 1), blockOf c1)).2 := by
      rw [hcz, putR, hfz.1, List.map_cons, runIt, ht σ1 _ hok1 hbP1]; rfl
    have hlz : left (c1 ++ Z) = [] := by rw [hcz, hfz.2]; rfl
    obtain ⟨σ2, hσ2⟩ : ∃ σ2, σ2 = if 56 < c1.length then (f σ1 ((N, 1), blockOf c1)).2 else σ1 := ⟨_, rfl⟩
    obtain ⟨c2, hc2⟩ : ∃ c2 : List UInt8, c2 = if 56 < c1.length then [] else c1 := ⟨_, rfl⟩
    have hok2 : ok σ2 := by
      rw [hσ2]
      split
      · exact hy.next _ _ hok1 hbP1 (ht _ _ hok1 hbP1)
      · exact hok1
    have hc56 : c2.length ≤ 56 := by
      rw [hc2]
      split
      · exact Nat.zero_le _
      · omega
    refine WpA.joinS [(2, .ptr N 0 0), (3, .ptr N 1 0), (5, .int .u64 (ps.flatten.length : Nat))] (HB σ2 c2) ?_ ?_
    · have hput2 := hPut σ1 c1 Z .full hok1 hcl (by rw [hZ, List.length_replicate]; omega)
      have hsub : IntKind.i64.wrap (64 - (c1.length : Int)) = ((64 - c1.length : Nat) : Int) := by rw [wrap64 (by omega) (by omega)]; omega
      have hrow : List.replicate (64 - c1.length) [AV.int .u8 0] = Z.map byteRow := by rw [hZ, List.map_replicate]; rfl
      rw [← hrow] at hput2
      repeat' first
        | (refine WpOps.p1 rfl rfl rfl (.loadN (X := HB σ1 c1) rfl rfl (gx σ1 _ _ _ 2) rfl rfl rfl rfl) ?_)
        | refine WpA.region ?_
        | refine WpOps.op _ rfl rfl rfl rfl rfl ?_
        | (refine WpOps.p1 rfl rfl rfl (.mkSl (64 - c1.length) rfl rfl rfl rfl rfl rfl rfl hsub hsub (by omega) (by omega) (by show (64 - c1.length) * 1 ≤ _; omega)) ?_)
        | (refine WpOps.call rfl rfl rfl rfl rfl (by exact hput2) ?_; rintro _ _ ⟨rfl, rfl⟩)
        | refine WpOps.nil ?_
        | refine WpA.skip ?_
        | refine WpA.cond _ rfl (fun h => ?_) (fun h => ?_)
      · have h56 : 56 < c1.length := by have := of_decide_eq_true h; omega
        rw [if_pos h56] at hσ2 hc2
        refine ⟨⟨rfl, rfl, rfl, trivial⟩, ?_⟩
        rw [hpz, hlz, hσ2, hc2]
      · have h56 : ¬ 56 < c1.length := by have := of_decide_eq_false h; omega
        rw [if_neg h56] at hσ2 hc2
        refine ⟨⟨rfl, rfl, rfl, trivial⟩, ?_⟩
        rw [hσ2, hc2]
    · have hbits : IntKind.u64.wrap ((ps.flatten.length : Int) * 8) = ((bitsOf ps.flatten.length : Nat) : Int) := by
        rw [bitsOf, wrapu64 (by omega) (by omega)]; omega
      have hbl : bitsOf ps.flatten.length < 18446744073709551616 := Nat.mod_lt _ (by decide)
      obtain ⟨b, hb⟩ : ∃ b, b = bitsOf ps.flatten.length := ⟨_, rfl⟩
      repeat' first
        | refine WpA.seq ?_
        | refine WpA.region ?_
        | refine WpOps.op _ rfl rfl rfl rfl rfl ?_
        | refine WpA.block ?_
        | refine WpOps.nil ?_
      refine WpA.loopG 8 (fun i => [(2, .ptr N 0 0), (3, .ptr N 1 0), (5, .int .u64 (b : Nat)), (38, .int .i64 (i : Nat))])
        (fun i => (Hf σ2 ++ X) ++ [AObj.cells [.yld yn yj], bytesB (tailF c2 b i), .cells [.int .i64 (c2.length : Nat)]]) (fun _ => True) trivial ⟨rfl, rfl, congrArg (AV.int .u64) (hbits.trans (by rw [hb])), rfl, trivial⟩ (by rw [tailF_zero hc56]) (fun i _ => by simp) (fun i hi _ => ?_) (fun i hi _ => ?_) (fun i hi _ => ?_) (fun _ => ?_) (fun _ => ⟨rfl, rfl, rfl, rfl, trivial⟩)
      · refine TrOk.app fun j o hj => ?_
        rcases j with _ | _ | _ | j
        · exact .inl hj
        · injection hj with hj; subst hj
          exact .inr (obd_cells fun a ha => by obtain ⟨x, _, rfl⟩ := List.mem_map.1 ha; exact .int)
        · exact .inl hj
        · cases hj
      · have e : ((Hf σ2 ++ X) ++ [AObj.cells [.yld yn yj], bytesB (tailF c2 b i), .cells [.int .i64 (c2.length : Nat)]]).length = N + 3 := by rw [List.length_append, hN]; rfl
        rw [e]
        exact ⟨.ptr (by omega), .ptr (by omega), .int, .int, trivial⟩
      · have q1 : IntKind.i64.wrap (56 + (i : Int)) = ((56 + i : Nat) : Int) := by rw [wrap64 (by omega) (by omega)]; omega
        have q2 : IntKind.i64.wrap (56 - IntKind.i64.wrap (8 * (i : Int))) = ((56 - 8 * i : Nat) : Int) := by rw [wrap64 (x := 8 * (i : Int)) (by omega) (by omega), wrap64 (by omega) (by omega)]; omega
        have q3 : ((b : Nat) : Int).fdiv (2 ^ min (56 - 8 * i) IntKind.u64.bits) = ((b / 2 ^ (56 - 8 * i) : Nat) : Int) := by
          have : min (56 - 8 * i) IntKind.u64.bits = 56 - 8 * i := Nat.min_eq_left (by show 56 - 8 * i ≤ 64; omega)
          rw [this, Int.fdiv_eq_ediv_of_nonneg _ (Int.pow_nonneg (by decide))]
          simp
        have g1 : ∀ L, ((Hf σ2 ++ X) ++ [AObj.cells [.yld yn yj], bytesB (tailF c2 b i), .cells [.int .i64 (c2.length : Nat)]] ++ L)[N + 1]? = some (bytesB (tailF c2 b i)) := fun L => getL (gx σ2 _ _ _ 1)
        have hle : 56 + i < ((tailF c2 b i).map u8).length := by rw [List.length_map, tailF_len hc56 b (by omega)]; omega
        have hst := tailF_set hc56 b hi
        repeat' first
          | (refine WpOps.p1 rfl rfl rfl (.shrN (56 - 8 * i) rfl rfl rfl q2) ?_)
          | refine WpA.seq ?_
          | refine WpA.region ?_
          | refine WpOps.op _ rfl rfl rfl rfl rfl ?_
          | (refine WpOps.p1 rfl rfl rfl (.elemP (56 + i) rfl rfl rfl rfl rfl q1 (by omega)) ?_)
          | (refine WpOps.u1h ((Hf σ2 ++ X) ++ [AObj.cells [.yld yn yj], bytesB (tailF c2 b (i + 1)), .cells [.int .i64 (c2.length : Nat)]]) rfl rfl (.storeN rfl rfl (gx σ2 _ _ _ 1) rfl rfl rfl rfl rfl hle) (by rw [st1, q3, u8wrap, hst]) ?_)
          | refine WpA.block ?_
          | refine WpA.exit ?_
          | refine WpOps.nil ?_
          | refine WpA.skip ?_
          | refine WpA.cond _ rfl (fun h => ?_) (fun h => ?_)
        · exact ⟨trivial, ⟨rfl, rfl, rfl, congrArg (AV.int .i64) (wrap64 (by omega) (by omega)), trivial⟩, [], by rw [List.append_nil]⟩
        · simp at h
          omega
      · rw [hb, tailF_full]
        have hlp : (lastOf c2 ps.flatten.length).length = 64 := by rw [← tailF_full]; exact tailF_len hc56 _ (by decide)
        have hbP3 : bP ((N, 1), lastOf c2 ps.flatten.length) := hlp
        have happ := hy.app σ2 ((N, 1), lastOf c2 ps.flatten.length) (X ++ [AObj.cells [.yld yn yj], bytesB (lastOf c2 ps.flatten.length), .cells [.int .i64 (c2.length : Nat)]]) hok2 hbP3 (by
          show (Hf σ2 ++ (X ++ [_, _, _]))[N + 1]? = _
          rw [← List.append_assoc, gx]; rfl)
        rw [← List.append_assoc] at happ
        repeat' first
          | (refine WpOps.p1 rfl rfl rfl (.loadN rfl rfl (gx σ2 _ _ _ 0) rfl rfl rfl rfl) ?_)
          | refine WpA.seq ?_
          | refine WpA.region ?_
          | refine WpOps.op _ rfl rfl rfl rfl rfl ?_
          | refine WpA.exit ?_
          | refine WpOps.nil ?_
          | refine WpA.condF rfl ?_
        refine WpOps.callV rfl rfl rfl rfl rfl happ ?_
        rintro _ _ ⟨rfl, rfl⟩
        rw [ht σ2 _ hok2 hbP3, ← List.append_assoc]
        repeat' first
          | refine WpOps.nil ?_
        refine retK.sub (H1 := Hf (f σ2 ((N, 1), lastOf c2 ps.flatten.length)).2 ++ X) (.inl rfl) (by rw [hN, hN]) (hy.tr _ _ X) rfl rfl (r := .tup []) (Sub.refl _) (.tup (by simp)) ⟨rfl, (blocksOf ps.flatten).map (fun b => ((N, 1), b)), ?_, ?_⟩
        · show List.map (fun x : BItem => x.2) (List.map (fun b => ((N, 1), b)) (blocksOf ps.flatten)) = blocksOf ps.flatten
          rw [List.map_map]
          exact List.map_id' _
        · congr 2
          rw [blocksOf, ← hD, ← hc1, List.map_append]
          have h1 := (runIt_all hy.next ht ((full D).map fun b => (((N, 1), b) : BItem)) ((if 56 < c1.length then [blockOf c1, lastOf [] ps.flatten.length] else [lastOf c1 ps.flatten.length]).map fun b => ((N, 1), b)) s hs (fun x hx => by
            obtain ⟨b, hb, rfl⟩ := List.mem_map.1 hx
            exact full_mem hb)).1
          rw [h1]
          have h2 : runIt f s ((full D).map fun b => (((N, 1), b) : BItem)) = σ1 := hσ1.symm
          rw [h2]
          by_cases h56 : 56 < c1.length
          · rw [if_pos h56] at hσ2 hc2
            rw [if_pos h56, hσ2, hc2]
            rw [hc2] at hbP3
            simp only [List.map_cons, List.map_nil, runIt, ht σ1 _ hok1 hbP1, cond_true]
            rw [hσ2] at hok2
            rw [ht _ _ hok2 hbP3]; rfl
          · rw [if_neg h56] at hσ2 hc2
            rw [if_neg h56, hσ2, hc2]
            rw [hc2] at hbP3
            simp only [List.map_cons, List.map_nil, runIt]
            rw [ht σ1 _ hok1 hbP3]; rfl
end Go.Gp.Tryd

/- Digests: Join, Sum. -/
namespace Go.Gp.Tryd
open Go.Proofs
set_option linter.unusedVariables false
set_option linter.unusedSimpArgs false
set_option maxHeartbeats 4000000
set_option maxRecDepth 100000

def reg0 : Reg := ⟨0x6a09e667, 0xbb67ae85, 0x3c6ef372, 0xa54ff53a, 0x510e527f, 0x9b05688c, 0x1f83d9ab, 0x5be0cd19⟩
def regsOf (msg : List UInt8) : Reg := (blocksOf msg).foldl addBlock reg0
def Reg.byte (r : Reg) (k : Nat) : UInt8 := (shr32 (r.list.getD (k / 4) 0) (24 - 8 * (k % 4))).toUInt8
/-- The digest, byte by byte. -/
def sha (msg : List UInt8) (k : Nat) : UInt8 := (regsOf msg).byte k
def hashA (h : Nat → UInt8) : List AV := (List.range 32).map fun k => u8 (h k)
def partH (h : Nat → UInt8) (i : Nat) : List AV := (List.range 32).map fun k => if k < i then u8 (h k) else u8 0
theorem partH_len (h : Nat → UInt8) (i : Nat) : (partH h i).length = 32 := by simp [partH]
theorem partH_set (h : Nat → UInt8) {i : Nat} (hi : i < 32) : (partH h i).set i (u8 (h i)) = partH h (i + 1) := by
  apply List.ext_getElem?
  intro k
  rw [List.getElem?_set, partH_len]
  simp only [partH, List.getElem?_map]
  by_cases hk : i = k
  · subst hk
    rw [if_pos rfl, if_pos hi, List.getElem?_range hi]; simp
  · rw [if_neg hk]
    by_cases h32 : k < 32
    · rw [List.getElem?_range h32]
      simp only [Option.map_some]
      congr 1
      by_cases h1 : k < i
      · rw [if_pos h1, if_pos (by omega)]
      · rw [if_neg h1, if_neg (by omega)]
    · rw [List.getElem?_eq_none (by simp; omega)]; rfl
theorem partH_full (h : Nat → UInt8) : partH h 32 = hashA h := by
  apply List.map_congr_left
  intro k hk
  rw [if_pos (List.mem_range.1 hk)]
theorem partH_bd (n : Nat) (h : Nat → UInt8) (i : Nat) : ∀ a ∈ partH h i, Bd n a := fun a ha => by
  obtain ⟨k, _, rfl⟩ := List.mem_map.1 ha
  split <;> exact .int
theorem hash_bd (n : Nat) (h : Nat → UInt8) : Bd n (.agg (hashA h)) := .agg fun a ha => by obtain ⟨k, _, rfl⟩ := List.mem_map.1 ha; exact .int
theorem hash_one (h : Nat → UInt8) : ∀ a ∈ hashA h, a.one = true := fun a ha => by obtain ⟨k, _, rfl⟩ := List.mem_map.1 ha; rfl

def addStep (r : Reg) (x : BItem) : Reg × Option Code := (addBlock r x.2, none)
theorem runStep_add : ∀ (its : List BItem) (r : Reg), runStep addStep r its = ((its.map (·.2)).foldl addBlock r, none)
  | [], r => rfl
  | x :: its, r => by rw [runStep]; exact runStep_add its _

theorem join_A (ps : List (List UInt8)) (hp : ps.length ≤ 1000000000) (hl : ps.flatten.length ≤ 140737488355328) (H : List AObj) : CallsA E 60 [.sl .no 1 (partsA ps)] H (Is H (.agg (hashA (sha ps.flatten)))) := by
  have hB := fun H => blocks_A ps H
  refine .enter Tryd.func60 rfl rfl rfl 30 Tryd.ntmps60 (Nat.le_of_ble_eq_true rfl) ?_
  repeat' first
    | refine WpA.seq ?_
    | refine WpA.region ?_
    | refine WpOps.op _ rfl rfl rfl rfl rfl ?_
    | refine WpOps.alloc _ rfl rfl rfl rfl rfl rfl ?_
    | refine WpOps.store rfl rfl rfl rfl rfl rfl rfl rfl rfl rfl ?_
    | refine WpOps.build _ rfl rfl rfl rfl rfl ?_
    | (refine WpOps.call rfl rfl rfl rfl rfl (by exact hB _) ?_; rintro _ _ ⟨rfl, rfl⟩)
    | refine WpA.block ?_
    | refine WpOps.nil ?_
  show WpA E none 30 _ _ _ _
  obtain ⟨M, hM⟩ : ∃ M, M = H.length + 2 := ⟨_, rfl⟩
  have hbdp : ∀ n, Bd n (.sl .no 1 (partsA ps)) := fun n => .sl (fun _ _ e => by cases e) fun x hx e he => by
    obtain ⟨p, _, rfl⟩ := List.mem_map.1 hx
    have := List.mem_singleton.1 he
    subst this
    exact bd_slB _
  refine WpA.weakS (T := [(2, .ptr H.length 0 0), (3, .ptr H.length 1 0), (9, .func 94 [.ptr M 0 0])]) ⟨Sub.refl _, Sub.refl _, by rw [hM]; simp only [List.length_append]; exact Sub.refl _, trivial⟩ ?_
  let HF : Reg → List AObj := fun r => H ++ [.cells (partH (fun _ => 0) 0), .cells r.cells, .cells [.sl .no 1 (partsA ps)]]
  refine WpA.heap (H' := HF reg0) (by show _ = H ++ [_, _, _]; simp only [List.append_assoc]; rfl) ?_
  have hlen : ∀ r, (HF r).length = H.length + 3 := fun r => by show (H ++ [_, _, _]).length = _; simp
  refine WpA.rangeG (pl := [10]) (N := H.length + 3) HF addStep (fun _ => True) reg0 rfl rfl rfl rfl (blocks1_A ps hp hl M 0) (fun r X => ?_) trivial hlen ?_ ?_ (fun _ _ => rfl) (by intro p hp; simp at hp; subst hp; decide) (fun _ _ _ _ _ => trivial) ?_ ?_ (fun _ _ _ _ _ => rfl)
  · show ((H ++ [_, _, _]) ++ X)[M + 0]? = _
    rw [hM, List.append_assoc, List.getElem?_append_right (by omega)]; simp
  · intro r r' i o hi
    have e : ∀ r, HF r = H ++ [.cells (partH (fun _ => 0) 0), .cells r.cells, .cells [.sl .no 1 (partsA ps)]] := fun _ => rfl
    rw [e] at hi ⊢
    rcases Nat.lt_or_ge i H.length with hlt | hge
    · rw [List.getElem?_append_left hlt] at hi ⊢; exact .inl hi
    · rw [List.getElem?_append_right hge] at hi ⊢
      generalize i - H.length = j at hi ⊢
      rcases j with _ | _ | _ | j
      · exact .inl hi
      · injection hi with hi; subst hi
        exact .inr (obd_cells (bd_u32 (l := r'.list)))
      · exact .inl hi
      · cases hi
  · refine ⟨.ptr (by omega), .ptr (by omega), .func ?_, trivial⟩
    intro e he
    have := List.mem_singleton.1 he
    subst this
    exact .ptr (by omega)
  · intro rec l r x X hrec _ hP B B' hB hB' hBl hpr
    have hne : x.1.1 + x.1.2 ≠ H.length + 3 := fun e => by
      have h1 : B[H.length + 3]? = some (rec .ready none) := by rw [hB, ← hlen r, List.getElem?_append_right (Nat.le_refl _), Nat.sub_self]; rfl
      have h2 : B[x.1.1 + x.1.2]? = some (bytesB x.2) := hpr
      rw [e, h1] at h2
      injection h2 with h2
      exact hrec _ _ _ h2
    have hblk : B'[x.1.1 + x.1.2]? = some (bytesB x.2) := by
      have h2 : B[x.1.1 + x.1.2]? = some (bytesB x.2) := hpr
      rw [← h2, hB, hB']
      rcases Nat.lt_or_ge (x.1.1 + x.1.2) (HF r).length with hlt | hge
      · rw [List.getElem?_append_left hlt, List.getElem?_append_left hlt]
      · rw [List.getElem?_append_right hge, List.getElem?_append_right hge]
        have := hlen r
        obtain ⟨d, hd⟩ : ∃ d, x.1.1 + x.1.2 - (HF r).length = d + 1 := ⟨x.1.1 + x.1.2 - (HF r).length - 1, by omega⟩
        rw [hd]; rfl
    have hst : B'[H.length + 1]? = some (.cells r.cells) := by
      rw [hB', List.getElem?_append_left (by rw [hlen]; omega)]
      show (H ++ [_, _, _])[H.length + 1]? = _
      rw [List.getElem?_append_right (by omega)]; simp
    have hadd := add_A r x.2 hP H.length 1 x.1.1 x.1.2 B' hst hblk
    have hset : B'.set (H.length + 1) (.cells (addBlock r x.2).cells) = HF (addBlock r x.2) ++ (rec .busy none :: X) := by
      rw [hB', List.set_append_left _ _ (by rw [hlen]; omega)]
      show (H ++ [_, _, _]).set (H.length + 1) _ ++ _ = (H ++ [_, _, _]) ++ _
      rw [List.set_append_right _ _ (by omega)]; simp
    have hadd' : CallsA E 81 [.ptr H.length 1 0, .ptr x.1.1 x.1.2 0] (B' ++ []) (fun e H' => H' = B'.set (H.length + 1) (.cells (addBlock r x.2).cells) ∧ e = .ret (.tup [])) := by rw [List.append_nil]; exact hadd
    repeat' first
      | refine WpA.region ?_
      | refine WpOps.op _ rfl rfl rfl rfl rfl ?_
      | refine WpOps.nil ?_
    refine ⟨rfl, _, rfl, ?_⟩
    repeat' first
      | refine WpA.region ?_
      | refine WpOps.op _ rfl rfl rfl rfl rfl ?_
      | (refine WpOps.call rfl rfl rfl rfl rfl (by exact hadd') ?_; rintro _ _ ⟨rfl, rfl⟩)
      | refine WpA.block ?_
      | refine WpOps.nil ?_
    refine ⟨[], ?_, rfl⟩
    rw [List.append_nil]
    exact hset
  · intro rec its hQ
    rw [runStep_add, hQ]
    show WpA E none 30 _ _ _ ((H ++ [AObj.cells (partH (fun _ => 0) 0), .cells (regsOf ps.flatten).cells, .cells [.sl .no 1 (partsA ps)]]) ++ [rec .exhausted none])
    obtain ⟨R, hR⟩ : ∃ R, R = regsOf ps.flatten := ⟨_, rfl⟩
    rw [← hR, List.append_assoc]
    generalize hrc : rec .exhausted none = o3
    have hsh : sha ps.flatten = R.byte := by rw [hR]; rfl
    rw [hsh]
    repeat' first
      | refine WpA.seq ?_
      | refine WpA.region ?_
      | refine WpOps.op _ rfl rfl rfl rfl rfl ?_
      | refine WpOps.alloc _ rfl rfl rfl rfl rfl rfl ?_
      | refine WpA.block ?_
      | refine WpOps.nil ?_
    refine WpA.loopG 32 (fun i => [(2, .ptr H.length 0 0), (3, .ptr H.length 1 0), (5, .ptr H.length 4 0), (13, .int .i64 (i : Nat))]) (fun i => H ++ [.cells (partH (fun _ => 0) 0), .cells R.cells, .cells [.sl .no 1 (partsA ps)], o3, .cells (partH R.byte i)]) (fun _ => True) trivial ⟨rfl, rfl, rfl, rfl, trivial⟩ rfl (fun _ _ => by simp) (fun i hi _ => ?_) (fun i hi _ => ?_) (fun i hi _ => ?_) (fun _ => ?_) (fun _ => ⟨rfl, rfl, rfl, rfl, trivial⟩)
    · refine TrOk.app fun k o hk => ?_
      rcases k with _ | _ | _ | _ | _ | k
      · exact .inl hk
      · exact .inl hk
      · exact .inl hk
      · exact .inl hk
      · injection hk with hk; subst hk; exact .inr (obd_cells (partH_bd _ _ _))
      · cases hk
    · exact ⟨.ptr (by simp), .ptr (by simp), .ptr (by simp), .int, trivial⟩
    · have h4 : i / 4 < 8 := by omega
      have q1 : IntKind.i64.wrap ((i : Int).tdiv 4) = ((i / 4 : Nat) : Int) := by
        have : (i : Int).tdiv 4 = ((i / 4 : Nat) : Int) := by rw [Int.tdiv_eq_ediv_of_nonneg (by omega)]; omega
        rw [this, wrap64 (by omega) (by omega)]
      have q2 : IntKind.i64.wrap (24 - IntKind.i64.wrap (8 * (i : Int).tmod 4)) = ((24 - 8 * (i % 4) : Nat) : Int) := by
        have : (i : Int).tmod 4 = ((i % 4 : Nat) : Int) := by rw [Int.tmod_eq_emod_of_nonneg (by omega)]; omega
        rw [this, wrap64 (x := 8 * ((i % 4 : Nat) : Int)) (by omega) (by omega), wrap64 (by omega) (by omega)]; omega
      have hg : R.cells[i / 4]? = some (u32 (R.list.getD (i / 4) 0)) := map_get (l := R.list) h4
      have hle : i < (partH R.byte i).length := by rw [partH_len]; exact hi
      have hv : IntKind.u8.wrap (((R.list.getD (i / 4) 0).toNat : Int).fdiv (2 ^ min (24 - 8 * (i % 4)) IntKind.u32.bits)) = ((R.byte i).toNat : Int) := by
        rw [w32_shr _ _ (by omega), w32_low]; rfl
      repeat' first
        | (refine WpOps.p1 rfl rfl rfl (.loadN rfl rfl (app_get rfl rfl) rfl rfl rfl hg) ?_)
        | (refine WpOps.p1 rfl rfl rfl (.shrN (24 - 8 * (i % 4)) rfl rfl rfl q2) ?_)
        | refine WpA.seq ?_
        | refine WpA.region ?_
        | refine WpOps.op _ rfl rfl rfl rfl rfl ?_
        | (refine WpOps.quo _ rfl rfl rfl rfl rfl ?_)
        | (refine WpOps.p1 rfl rfl rfl (.elemP (i / 4) rfl rfl rfl rfl rfl q1 h4) ?_)
        | (refine WpOps.p1 rfl rfl rfl (.elemP i rfl rfl rfl rfl rfl rfl hi) ?_)
        | (refine WpOps.u1 rfl rfl (.storeL (j := 4) rfl rfl rfl rfl rfl rfl rfl rfl hle) ?_)
        | refine WpA.block ?_
        | refine WpA.exit ?_
        | refine WpOps.nil ?_
        | refine WpA.skip ?_
        | refine WpA.cond _ rfl (fun h => ?_) (fun h => ?_)
      · refine ⟨trivial, ⟨rfl, rfl, rfl, congrArg (AV.int .i64) (wrap64 (by omega) (by omega)), trivial⟩, [], ?_⟩
        rw [List.append_nil, hv, ← partH_set R.byte hi]
        rfl
      · simp at h; omega
    · rw [partH_full]
      obtain ⟨hs, hhs⟩ : ∃ hs, hs = hashA R.byte := ⟨_, rfl⟩
      have hsl : hs.length = 32 := by rw [hhs]; simp [hashA]
      have hone : ∀ a ∈ hs, a.one = true := by rw [hhs]; exact hash_one _
      rw [← hhs]
      repeat' first
        | (refine WpOps.p1 rfl rfl rfl (.loadG rfl rfl (app_get (j := 4) rfl rfl) rfl rfl (by exact hsl)) ?_)
        | (refine WpOps.u1 rfl rfl (.storeGL (j := 0) rfl rfl rfl rfl (by exact hone) rfl (by exact hsl) (by rw [hsl, partH_len])) ?_)
        | refine WpA.seq ?_
        | refine WpA.region ?_
        | refine WpOps.op _ rfl rfl rfl rfl rfl ?_
        | refine WpA.exit ?_
        | refine WpOps.nil ?_
        | refine WpA.ret ?_
        | refine WpA.condF rfl ?_
      exact retK.sub (.inr rfl) rfl (TrOk.refl H) (L := _) (resL_one (resA_agg rfl rfl rfl rfl (by exact hsl))) rfl (Sub.refl _) (by rw [hhs]; exact hash_bd _ _) ⟨rfl, by rw [hhs]; rfl⟩
theorem sum_A (b : List UInt8) (hl : b.length ≤ 140737488355328) (H : List AObj) : CallsA E 28 [.sl .no 1 (b.map byteRow)] H (Is H (.agg (hashA (sha b)))) := by
  have hJ : ∀ H, CallsA E 60 [.sl .full 1 [[.sl .no 1 (b.map byteRow)]]] H (Is H (.agg (hashA (sha b)))) := fun H => by
    have := join_A [b] (Nat.le_of_ble_eq_true rfl) (by simpa using hl) H
    have e : [b].flatten = b := by simp
    rw [e] at this
    exact CallsA.subL (vs := [.sl .no 1 (partsA [b])]) ⟨Sub.untag, trivial⟩ this
  refine .enter Tryd.func28 rfl rfl rfl 6 Tryd.ntmps28 (Nat.le_of_ble_eq_true rfl) ?_
  obtain ⟨hs, hhs⟩ : ∃ hs, hs = hashA (sha b) := ⟨_, rfl⟩
  have hsl : hs.length = 32 := by rw [hhs]; simp [hashA]
  have hone : ∀ a ∈ hs, a.one = true := by rw [hhs]; exact hash_one _
  have hbd : Bd H.length (.agg hs) := by rw [hhs]; exact hash_bd _ _
  rw [← hhs] at hJ ⊢
  repeat' first
    | (refine WpOps.u1 rfl rfl (.storeGL (j := 0) rfl rfl rfl rfl (by exact hone) rfl (by exact hsl) (by rw [hsl]; rfl)) ?_)
    | refine WpA.seq ?_
    | refine WpA.region ?_
    | refine WpOps.op _ rfl rfl rfl rfl rfl ?_
    | refine WpOps.alloc _ rfl rfl rfl rfl rfl rfl ?_
    | (refine WpOps.call rfl rfl rfl rfl rfl (by exact hJ _) ?_; rintro _ _ ⟨rfl, rfl⟩)
    | (refine WpOps.buildSlice _ rfl rfl rfl rfl rfl rfl rfl rfl rfl rfl rfl ?_)
    | refine WpOps.nil ?_
    | refine WpA.ret ?_
  exact retK.sub (.inr rfl) rfl (TrOk.refl H) (L := _) (resL_one (resA_agg rfl rfl rfl rfl (by exact hsl))) rfl (Sub.refl _) hbd ⟨rfl, rfl⟩
end Go.Gp.Tryd

/- Files by their names. -/
namespace Go.Gp.Tryd
open Go.Proofs
set_option linter.unusedVariables false
set_option linter.unusedSimpArgs false
set_option maxHeartbeats 4000000
set_option maxRecDepth 100000

structure NFile where
  name : List UInt8
  bytes : List UInt8
def NFile.row (f : NFile) : List AV := [.str f.name, .sl .no 1 (f.bytes.map byteRow)]
def nrows (fs : List NFile) : List (List AV) := fs.map NFile.row
theorem nrows_len (fs : List NFile) : (nrows fs).length = fs.length := List.length_map _
theorem nrows_get {fs : List NFile} {i : Nat} (h : i < fs.length) : (nrows fs)[((i : Nat) : Int).toNat]? = some fs[i].row := by
  rw [Int.toNat_natCast, nrows, List.getElem?_map, List.getElem?_eq_getElem h]; rfl
theorem bd_file (n : Nat) (f : NFile) : ∀ a ∈ f.row, Bd n a := fun a ha => by
  simp only [NFile.row, List.mem_cons, List.not_mem_nil, or_false] at ha
  rcases ha with rfl | rfl
  · exact .str
  · exact bd_slB _
theorem bd_nrows (n : Nat) (fs : List NFile) : Bd n (.sl .no 2 (nrows fs)) := .sl (fun _ _ e => by cases e) fun x hx e he => by
  obtain ⟨f, _, rfl⟩ := List.mem_map.1 hx
  exact bd_file n f e he

def entK (f : NFile) : AV := .str f.name
def entV (f : NFile) : AV := .sl .no 1 (f.bytes.map byteRow)
/-- The map of files, entry by entry. -/
def mapStep (p : List AEntry × Nat) (f : NFile) : List AEntry × Nat := putM p.1 p.2 (entK f) (entV f)
def mapTo (fs : List NFile) : List AEntry × Nat := fs.foldl mapStep ([], 0)
def names (fs : List NFile) : List (List UInt8) := fs.map (·.name)
def entries (fs : List NFile) (k : Nat) : List AEntry := (fs.zipIdx k).map fun p => (entK p.1, entV p.1, p.2)
theorem entries_len (fs : List NFile) (k : Nat) : (entries fs k).length = fs.length := by simp [entries]
theorem entries_keys (fs : List NFile) (k : Nat) : keysOf (entries fs k) = names fs := by
  simp only [keysOf, entries, List.map_map, names]
  induction fs generalizing k with
  | nil => rfl
  | cons f fs ih => simp only [List.zipIdx_cons, List.map_cons]; rw [ih]; rfl

/-- Whether all keys are strings. -/
def StrKeysA (es : List AEntry) : Prop := ∀ e ∈ es, ∃ s, e.1 = .str s
theorem findA_none {s : List UInt8} : ∀ {es : List AEntry}, StrKeysA es → (findA (.str s) es = none ↔ s ∉ keysOf es)
  | [], _ => by simp [findA, keysOf]
  | e :: es, h => by
    obtain ⟨t, ht⟩ := h e List.mem_cons_self
    have ih := findA_none (s := s) (es := es) (fun x hx => h x (List.mem_cons_of_mem _ hx))
    have hk : keysOf (e :: es) = t :: keysOf es := by rw [keysOf, List.map_cons, ht]; rfl
    rw [hk, findA, ht]
    by_cases hst : s = t
    · subst hst; simp [keyB]
    · have : keyB (.str s) (.str t) = false := by simpa [keyB] using hst
      rw [this]
      simp [hst, ih]
theorem findA_some {s : List UInt8} : ∀ {es : List AEntry} {j : Nat}, StrKeysA es → findA (.str s) es = some j → (keysOf es)[j]? = some s
  | [], _, _, h => by cases h
  | e :: es, j, hs, h => by
    obtain ⟨t, ht⟩ := hs e List.mem_cons_self
    have hk : keysOf (e :: es) = t :: keysOf es := by rw [keysOf, List.map_cons, ht]; rfl
    rw [findA, ht] at h
    by_cases hst : s = t
    · subst hst
      simp [keyB] at h
      subst h
      rw [hk]; rfl
    · have : keyB (.str s) (.str t) = false := by simpa [keyB] using hst
      rw [this] at h
      simp only [cond_false, Option.map_eq_some_iff] at h
      obtain ⟨i, h1, rfl⟩ := h
      rw [hk, List.getElem?_cons_succ]
      exact findA_some (fun x hx => hs x (List.mem_cons_of_mem _ hx)) h1

theorem putM_keys {es : List AEntry} (hs : StrKeysA es) (clk : Nat) (f : NFile) : StrKeysA (putM es clk (entK f) (entV f)).1 ∧ keysOf (putM es clk (entK f) (entV f)).1 = (if f.name ∈ keysOf es then keysOf es else keysOf es ++ [f.name]) := by
  unfold putM entK
  cases hf : findA (.str f.name) es with
  | none =>
    have := (findA_none hs).1 hf
    rw [if_neg this]
    refine ⟨fun e he => ?_, by simp [keysOf, strA1]⟩
    rcases List.mem_append.1 he with he | he
    · exact hs e he
    · have := List.mem_singleton.1 he; subst this; exact ⟨_, rfl⟩
  | some j =>
    have h1 := findA_some hs hf
    rw [if_pos (List.mem_of_getElem? h1)]
    have hk : keysOf (es.modify j fun e => (AV.str f.name, entV f, e.2.2)) = keysOf es := by
      apply List.ext_getElem?
      intro i
      simp only [keysOf, List.getElem?_map, List.getElem?_modify]
      by_cases hji : j = i
      · subst hji
        simp only [keysOf, List.getElem?_map] at h1
        rw [h1]
        cases he : es[j]? with
        | none => rw [he] at h1; cases h1
        | some e => simp [strA1]
      · cases es[i]? <;> simp [hji]
    refine ⟨fun e he => ?_, hk⟩
    obtain ⟨i, hi⟩ := List.getElem?_of_mem he
    rw [List.getElem?_modify] at hi
    cases he' : es[i]? with
    | none => rw [he'] at hi; simp at hi
    | some e0 =>
      rw [he'] at hi
      by_cases hji : j = i
      · simp [hji] at hi; exact ⟨f.name, by rw [← hi]⟩
      · simp [hji] at hi; rw [← hi]; exact hs e0 (List.mem_of_getElem? he')
theorem mapFold : ∀ (fs : List NFile) (es : List AEntry) (clk : Nat), StrKeysA es → (keysOf es).Nodup →
    StrKeysA (fs.foldl mapStep (es, clk)).1 ∧ (keysOf (fs.foldl mapStep (es, clk)).1).Nodup ∧ (fs.foldl mapStep (es, clk)).1.length ≤ es.length + fs.length ∧
    ((fs.foldl mapStep (es, clk)).1.length = es.length + fs.length → (names fs).Nodup ∧ (∀ f ∈ fs, f.name ∉ keysOf es)) ∧
    ((names fs).Nodup → (∀ f ∈ fs, f.name ∉ keysOf es) → fs.foldl mapStep (es, clk) = (es ++ entries fs clk, clk + fs.length))
  | [], es, clk, hs, hn => ⟨hs, hn, Nat.le_refl _, fun _ => ⟨List.nodup_nil, by simp⟩, fun _ _ => by simp [entries]⟩
  | f :: fs, es, clk, hs, hn => by
    obtain ⟨h1, h2⟩ := putM_keys hs clk f
    have hk : ∀ es : List AEntry, (keysOf es).length = es.length := fun es => List.length_map _
    rw [List.foldl_cons]
    obtain ⟨es', clk', hp⟩ : ∃ es' clk', mapStep (es, clk) f = (es', clk') := ⟨_, _, rfl⟩
    have hp1 : (putM es clk (entK f) (entV f)).1 = es' := congrArg Prod.fst hp
    rw [hp1] at h1 h2
    rw [hp]
    have hn' : (keysOf es').Nodup := by
      rw [h2]
      split
      · exact hn
      · rename_i hni
        rw [List.nodup_append]
        exact ⟨hn, by simp, fun a ha b hb => by have := List.mem_singleton.1 hb; subst this; exact fun e => hni (e ▸ ha)⟩
    obtain ⟨i1, i2, i3, i4, i5⟩ := mapFold fs es' clk' h1 hn'
    have hl : es'.length = if f.name ∈ keysOf es then es.length else es.length + 1 := by
      rw [← hk es', h2]
      split
      · exact hk es
      · rw [List.length_append, hk]; rfl
    refine ⟨i1, i2, ?_, fun he => ?_, fun hnd hni => ?_⟩
    · rw [List.length_cons]
      split at hl <;> omega
    · rw [List.length_cons] at he
      have hnf : f.name ∉ keysOf es := fun hm => by rw [if_pos hm] at hl; omega
      rw [if_neg hnf] at hl h2
      obtain ⟨j1, j2⟩ := i4 (by omega)
      have j3 : ∀ g ∈ fs, g.name ≠ f.name ∧ g.name ∉ keysOf es := fun g hg => by
        have := j2 g hg
        rw [h2] at this
        simp at this
        exact ⟨this.2, this.1⟩
      refine ⟨List.nodup_cons.2 ⟨fun hm => ?_, j1⟩, fun g hg => ?_⟩
      · obtain ⟨g, hg, e⟩ := List.mem_map.1 hm
        exact (j3 g hg).1 e
      · rcases List.mem_cons.1 hg with rfl | hg
        · exact hnf
        · exact (j3 g hg).2
    · have hnf := hni f List.mem_cons_self
      obtain ⟨n1, n2⟩ := List.nodup_cons.1 hnd
      have hfn : findA (entK f) es = none := (findA_none hs).2 hnf
      have hput : (es', clk') = (es ++ [(entK f, entV f, clk)], clk + 1) := by
        rw [← hp]
        show putM es clk (entK f) (entV f) = _
        unfold putM
        rw [hfn]
      injection hput with e1 e2
      have := i5 n2 (fun g hg => by
        rw [h2, if_neg hnf]
        simp only [List.mem_append, List.mem_singleton, not_or]
        exact ⟨hni g (List.mem_cons_of_mem _ hg), fun e => n1 (List.mem_map.2 ⟨g, hg, e⟩)⟩)
      rw [this, e1, e2]
      simp only [Prod.mk.injEq, List.length_cons]
      refine ⟨?_, by omega⟩
      rw [List.append_assoc]
      simp [entries, List.zipIdx_cons]
/-- A map of files with as many entries as there are files: all names differ. -/
theorem mapTo_spec (fs : List NFile) : StrKeysA (mapTo fs).1 ∧ (mapTo fs).1.length ≤ fs.length ∧ ((mapTo fs).1.length = fs.length ↔ (names fs).Nodup) ∧ ((names fs).Nodup → mapTo fs = (entries fs 0, fs.length)) := by
  obtain ⟨h1, h2, h3, h4, h5⟩ := mapFold fs [] 0 (by intro e he; cases he) List.nodup_nil
  have h5' : (names fs).Nodup → mapTo fs = (entries fs 0, fs.length) := fun hn => by
    have := h5 hn (fun f _ => by simp [keysOf])
    rw [mapTo, this]; simp
  refine ⟨h1, by simpa [mapTo] using h3, ⟨fun h => (h4 (by simpa [mapTo] using h)).1, fun hn => ?_⟩, h5'⟩
  rw [h5' hn]
  exact entries_len fs 0
theorem mapTo_snoc (fs : List NFile) (f : NFile) : mapTo (fs ++ [f]) = mapStep (mapTo fs) f := by rw [mapTo, List.foldl_append]; rfl
end Go.Gp.Tryd
