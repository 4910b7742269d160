/- Part of a proof: GdO9, GdO10 -/
import Derived.Test.YtmacdhglhafldaaDoorK21

/- The octet codec: all values of a value; Check. -/
namespace Go.Gp.Tryd
open Go.Proofs
set_option linter.unusedVariables false
set_option linter.unusedSimpArgs false
set_option maxHeartbeats 4000000
set_option maxRecDepth 100000

def itemOf (o : Oct) (d : Nat) : List AV := [.agg o.cells, .int .i64 (d : Nat)]

mutual
def Oct.pre0 : Oct → Nat → List (Oct × Nat)
  | .mk t bs is, d => (.mk t bs is, d) :: Oct.preL is (d + 1)
def Oct.preL : List Oct → Nat → List (Oct × Nat)
  | [], _ => []
  | o :: os, d => o.pre0 d ++ Oct.preL os d
end
def Oct.pre (o : Oct) (d : Nat) : List (Oct × Nat) := (o, d) :: Oct.preL o.items (d + 1)
theorem pre_eq (o : Oct) (d : Nat) : o.pre0 d = o.pre d := by cases o; simp only [Oct.pre0, Oct.pre, Oct.items]
theorem preL_cons (o : Oct) (os : List Oct) (d : Nat) : Oct.preL (o :: os) d = o.pre d ++ Oct.preL os d := by rw [← pre_eq]; simp only [Oct.preL]
theorem preL_nil (d : Nat) : Oct.preL [] d = [] := by simp only [Oct.preL]
theorem preL_append : ∀ (xs ys : List Oct) (d : Nat), Oct.preL (xs ++ ys) d = Oct.preL xs d ++ Oct.preL ys d
  | [], ys, d => by rw [preL_nil]; rfl
  | x :: xs, ys, d => by rw [List.cons_append, preL_cons, preL_append xs ys, preL_cons, List.append_assoc]
theorem preL_take {is : List Oct} {i : Nat} (h : i < is.length) (d : Nat) : Oct.preL (is.take (i + 1)) d = Oct.preL (is.take i) d ++ is[i].pre d := by
  rw [List.take_succ_eq_append_getElem h, preL_append, preL_cons, preL_nil, List.append_nil]
def Oct.its (o : Oct) (d : Nat) : List (List AV) := (o.pre d).map fun p => itemOf p.1 p.2

def itsL (os : List Oct) (d : Nat) : List (List AV) := (Oct.preL os d).map fun p => itemOf p.1 p.2
theorem its_eq (o : Oct) (d : Nat) : o.its d = itemOf o d :: itsL o.items (d + 1) := rfl
theorem itsL_take {is : List Oct} {i : Nat} (h : i < is.length) (d : Nat) : itsL (is.take (i + 1)) d = itsL (is.take i) d ++ is[i].its d := by
  rw [itsL, preL_take h, List.map_append]; rfl
theorem mem_itsL {is : List Oct} {i : Nat} {d : Nat} {x : List AV} (h : i < is.length) (hx : x ∈ is[i].its d) : x ∈ itsL is d := by
  have : is = is.take (i + 1) ++ is.drop (i + 1) := (List.take_append_drop _ _).symm
  rw [this, itsL, preL_append, List.map_append]
  refine List.mem_append_left _ ?_
  have h2 := itsL_take h d
  unfold itsL at h2
  rw [h2]
  exact List.mem_append_right _ hx

theorem all_A (o : Oct) (d : Nat) (H : List AObj) : CallsA E 88 [.agg o.cells, .int .i64 (d : Nat)] H (fun e H' => H' = H ++ [.cells o.cells, .cells [.int .i64 (d : Nat)]] ∧ e = .ret (.func 108 [.ptr H.length 0 0, .ptr H.length 1 0])) := by
  refine .enter Tryd.func88 rfl rfl rfl 6 Tryd.ntmps88 (Nat.le_of_ble_eq_true rfl) ?_
  repeat' first
    | refine WpA.seq ?_
    | refine WpA.region ?_
    | refine WpOps.op _ rfl rfl rfl rfl rfl ?_
    | refine WpOps.box _ rfl rfl rfl rfl rfl ?_
    | refine WpOps.alloc _ rfl rfl rfl rfl rfl rfl ?_
    | refine WpOps.store rfl rfl rfl rfl rfl rfl rfl rfl rfl rfl ?_
    | refine WpOps.skip rfl rfl rfl ?_
    | refine WpOps.build _ rfl rfl rfl rfl rfl ?_
    | refine WpOps.sh _ rfl rfl rfl rfl rfl ?_
    | refine WpOps.gsplit _ rfl rfl rfl (fun h => ?_) (fun h => ?_)
    | refine WpA.block ?_
    | refine WpA.exit ?_
    | refine WpOps.nil ?_
    | refine WpA.ret ?_
    | refine WpA.skip ?_
    | refine WpA.condT rfl ?_
    | refine WpA.condF rfl ?_
    | refine WpA.cond _ rfl (fun h => ?_) (fun h => ?_)
    | refine WpA.draw (by kernel_rfl) ?_
    | refine LexA.op _ rfl rfl rfl rfl rfl ?_
    | refine LexA.skip rfl rfl rfl ?_
    | refine LexA.build _ rfl rfl rfl rfl rfl ?_
    | refine LexA.sh _ rfl rfl rfl rfl rfl ?_
    | refine LexA.gsplit _ rfl rfl rfl (fun h => ?_) (fun h => ?_)
    | refine LexA.nil ?_
  exact retK.all (.inr rfl) rfl rfl (Sub.refl _) ⟨rfl, rfl⟩

/-- Where a closure of 'all' finds what it has captured. -/
def allPre (o : Oct) (d : Nat) (m q q' : Nat) (H : List AObj) : Prop := H[m + q]? = some (.cells o.cells) ∧ H[m + q']? = some (.cells [.int .i64 (d : Nat)])

theorem all1_A : ∀ (o : Oct) (d : Nat) (m q q' : Nat), d + o.size ≤ 1125899906842624 → IterA E 108 [.ptr m q 0, .ptr m q' 0] (allPre o d m q q') (o.its d)
  | .mk tg bs is, d, m, q, q', hd => by
    intro yn yj σ Hf f ok hy hpre s X hs
    have ih : ∀ (i : Nat) (h : i < is.length) (m q q' : Nat), IterA E 108 [.ptr m q 0, .ptr m q' 0] (allPre is[i] (d + 1) m q q') (is[i].its (d + 1)) := fun i h m q q' => all1_A is[i] (d + 1) m q q' (by have := size_get h; rw [size_mk] at hd; omega)
    obtain ⟨B, hB⟩ : ∃ B, B = Hf s ++ X := ⟨_, rfl⟩
    obtain ⟨hp1, hp2⟩ := hpre s X
    rw [← hB] at hp1 hp2 ⊢
    refine .enter Tryd.func108 rfl rfl rfl 32 Tryd.ntmps108 (Nat.le_of_ble_eq_true rfl) ?_
    repeat' first
      | refine WpA.seq ?_
      | refine WpA.region ?_
      | refine WpOps.op _ rfl rfl rfl rfl rfl ?_
      | refine WpOps.box _ rfl rfl rfl rfl rfl ?_
      | refine WpOps.alloc _ rfl rfl rfl rfl rfl rfl ?_
      | refine WpOps.store rfl rfl rfl rfl rfl rfl rfl rfl rfl rfl ?_
      | refine WpOps.skip rfl rfl rfl ?_
      | refine WpOps.build _ rfl rfl rfl rfl rfl ?_
      | refine WpOps.sh _ rfl rfl rfl rfl rfl ?_
      | (refine WpOps.loadOut _ rfl rfl rfl rfl rfl hp1 rfl rfl rfl ?_)
      | (refine WpOps.loadOut _ rfl rfl rfl rfl rfl hp2 rfl rfl rfl ?_)
      | refine WpOps.gsplit _ rfl rfl rfl (fun h => ?_) (fun h => ?_)
      | refine WpA.block ?_
      | refine WpA.exit ?_
      | refine WpOps.nil ?_
      | refine WpA.ret ?_
      | refine WpA.skip ?_
      | refine WpA.condT rfl ?_
      | refine WpA.condF rfl ?_
      | refine WpA.cond _ rfl (fun h => ?_) (fun h => ?_)
      | refine WpA.draw (by kernel_rfl) ?_
      | refine LexA.op _ rfl rfl rfl rfl rfl ?_
      | refine LexA.skip rfl rfl rfl ?_
      | refine LexA.build _ rfl rfl rfl rfl rfl ?_
      | refine LexA.sh _ rfl rfl rfl rfl rfl ?_
      | refine LexA.gsplit _ rfl rfl rfl (fun h => ?_) (fun h => ?_)
      | refine LexA.nil ?_
    have hitem : itemOf (.mk tg bs is) d ∈ (Oct.mk tg bs is).its d := List.mem_map.2 ⟨_, List.mem_cons_self, rfl⟩
    have hfr := hy.app s (itemOf (.mk tg bs is) d) (X ++ [.cells [.yld yn yj]]) hs hitem
    have hBX : ∀ L, Hf s ++ (X ++ L) = B ++ L := fun L => by rw [hB, List.append_assoc]
    rw [hBX] at hfr
    refine WpOps.callV rfl rfl rfl rfl rfl hfr ?_
    rintro _ _ ⟨rfl, rfl⟩
    obtain ⟨b1, s1, hf1⟩ : ∃ b1 s1, f s (itemOf (.mk tg bs is) d) = (b1, s1) := ⟨_, _, rfl⟩
    rw [hf1]
    dsimp only
    obtain ⟨B1, hB1⟩ : ∃ B1, B1 = Hf s1 ++ X := ⟨_, rfl⟩
    have hBl : B.length = B1.length := by rw [hB, hB1, List.length_append, List.length_append, hy.len s s1]
    have hh : Hf s1 ++ (X ++ [AObj.cells [AV.yld yn yj]]) = B1 ++ [AObj.cells [AV.yld yn yj]] := by rw [hB1, List.append_assoc]
    rw [hh]
    have htr : ∀ s', TrOk B (Hf s' ++ X) := fun s' => by rw [hB]; exact hy.tr s s' X
    rw [its_eq]
    have hrun : ∀ l, runIt f s (itemOf (.mk tg bs is) d :: l) = bif b1 then runIt f s1 l else s1 := fun l => by rw [runIt, hf1]
    rw [hrun]
    rw [hBl]
    repeat' first
      | refine WpA.seq ?_
      | refine WpA.region ?_
      | refine WpOps.op _ rfl rfl rfl rfl rfl ?_
      | refine WpOps.box _ rfl rfl rfl rfl rfl ?_
      | refine WpOps.alloc _ rfl rfl rfl rfl rfl rfl ?_
      | refine WpOps.store rfl rfl rfl rfl rfl rfl rfl rfl rfl rfl ?_
      | refine WpOps.skip rfl rfl rfl ?_
      | refine WpOps.build _ rfl rfl rfl rfl rfl ?_
      | refine WpOps.sh _ rfl rfl rfl rfl rfl ?_
      | refine WpOps.gsplit _ rfl rfl rfl (fun h => ?_) (fun h => ?_)
      | refine WpA.block ?_
      | refine WpA.exit ?_
      | refine WpOps.nil ?_
      | refine WpA.ret ?_
      | refine WpA.skip ?_
      | refine WpA.condT rfl ?_
      | refine WpA.condF rfl ?_
      | refine WpA.cond _ rfl (fun h => ?_) (fun h => ?_)
      | refine WpA.draw (by kernel_rfl) ?_
      | refine LexA.op _ rfl rfl rfl rfl rfl ?_
      | refine LexA.skip rfl rfl rfl ?_
      | refine LexA.build _ rfl rfl rfl rfl rfl ?_
      | refine LexA.sh _ rfl rfl rfl rfl rfl ?_
      | refine LexA.gsplit _ rfl rfl rfl (fun h => ?_) (fun h => ?_)
      | refine LexA.nil ?_
    · have hb : b1 = false := by simpa using h
      subst hb
      rw [hB1]
      exact retK.tag (.inr rfl) (by rw [← hB1, hBl]) (htr s1) rfl rfl (.tup (by simp)) ⟨rfl, rfl⟩
    · have hb : b1 = true := by simpa using h
      subst hb
      have hBl' := hB
      clear h hfr hB hBl hrun hh hBX
      have hs1 : ok s1 := by have := hy.next s _ hs hitem (by rw [hf1]); rw [hf1] at this; exact this
      have hyL : ∀ (i : Nat) (h : i < is.length) x, x ∈ is[i].its (d + 1) → x ∈ (Oct.mk tg bs is).its d := fun i h x hx => by rw [its_eq]; exact List.mem_cons_of_mem _ (mem_itsL h hx)
      have hpB := hpre s1 X
      rw [← hB1] at hpB
      have hsz := length_le_sizeL is
      rw [size_mk] at hd
      repeat' first
        | refine WpA.seq ?_
        | refine WpA.region ?_
        | refine WpOps.op _ rfl rfl rfl rfl rfl ?_
        | refine WpOps.box _ rfl rfl rfl rfl rfl ?_
        | refine WpOps.alloc _ rfl rfl rfl rfl rfl rfl ?_
        | refine WpOps.store rfl rfl rfl rfl rfl rfl rfl rfl rfl rfl ?_
        | refine WpOps.skip rfl rfl rfl ?_
        | refine WpOps.build _ rfl rfl rfl rfl rfl ?_
        | refine WpOps.sh _ rfl rfl rfl rfl rfl ?_
        | refine WpOps.loadOut _ rfl rfl rfl rfl rfl hpB.1 rfl rfl rfl ?_
        | refine WpOps.gsplit _ rfl rfl rfl (fun h => ?_) (fun h => ?_)
        | refine WpA.block ?_
        | refine WpA.exit ?_
        | refine WpOps.nil ?_
        | refine WpA.ret ?_
        | refine WpA.skip ?_
        | refine WpA.condT rfl ?_
        | refine WpA.condF rfl ?_
        | refine WpA.cond _ rfl (fun h => ?_) (fun h => ?_)
        | refine WpA.draw (by kernel_rfl) ?_
        | refine LexA.op _ rfl rfl rfl rfl rfl ?_
        | refine LexA.skip rfl rfl rfl ?_
        | refine LexA.build _ rfl rfl rfl rfl rfl ?_
        | refine LexA.sh _ rfl rfl rfl rfl rfl ?_
        | refine LexA.gsplit _ rfl rfl rfl (fun h => ?_) (fun h => ?_)
        | refine LexA.nil ?_
      show WpA E none 32 (.loop _) _ _ _
      let σs : Nat → σ := fun i => runIt f s1 (itsL (is.take i) (d + 1))
      refine WpA.loopG is.length (fun i => [(1, .ptr m q 0), (2, .ptr m q' 0), (3, .ptr B1.length 0 0), (14, .sl .no 3 (Oct.cellsL is)), (15, .int .i64 (is.length : Nat)), (16, .int .i64 (i : Nat))])
        (fun i => (Hf (σs i) ++ X) ++ [.cells [.yld yn yj]]) (fun i => allIt f s1 (itsL (is.take i) (d + 1)) = true ∧ ok (σs i)) ⟨rfl, hs1⟩ ⟨rfl, rfl, rfl, rfl, ?_, rfl, trivial⟩ (by rw [hB1]; rfl) ?_ ?_ ?_ (fun i hi ho => ?_) (fun ho => ?_) (fun _ => ⟨rfl, rfl, rfl, rfl, rfl, rfl, trivial⟩)
      · show AV.int .i64 ((Oct.cellsL is).length : Nat) = _
        rw [cellsL_length]
      · intro i _
        simp [hy.len (σs (i + 1)) (σs i)]
      · intro i _ _
        have := hy.tr (σs i) (σs (i + 1)) (X ++ [.cells [.yld yn yj]])
        rwa [← List.append_assoc, ← List.append_assoc] at this
      · intro i hi _
        have h1 := get_lt (hpre (σs i) X).1
        have h2 := get_lt (hpre (σs i) X).2
        have h3 := hy.len (σs i) s1
        refine ⟨.ptr (by rw [List.length_append]; omega), .ptr (by rw [List.length_append]; omega), .ptr ?_, .sl (fun _ _ e => by cases e) (Oct.bdL _ is), .int, .int, trivial⟩
        rw [hB1]
        simp [h3]
      · obtain ⟨Bi, hBi⟩ : ∃ Bi, Bi = Hf (σs i) ++ X := ⟨_, rfl⟩
        have hBil : B1.length = Bi.length := by rw [hB1, hBi, List.length_append, List.length_append, hy.len s1 (σs i)]
        rw [← hBi, hBil]
        have hpi := hpre (σs i) X
        rw [← hBi] at hpi
        have hc : (Oct.cellsL is)[((i : Nat) : Int).toNat]? = some (is[i]).cells := by rw [Int.toNat_natCast]; exact cellsL_get hi
        have hAll : ∀ H, CallsA E 88 [.agg (is[i]).cells, .int .i64 (IntKind.i64.wrap ((d : Int) + 1))] H (fun e H' => H' = H ++ [.cells (is[i]).cells, .cells [.int .i64 ((d + 1 : Nat) : Int)]] ∧ e = .ret (.func 108 [.ptr H.length 0 0, .ptr H.length 1 0])) := fun H => by
          rw [wrap64 (by omega) (by omega)]
          exact all_A is[i] (d + 1) H
        repeat' first
          | refine WpA.seq ?_
          | refine WpA.region ?_
          | refine WpOps.op _ rfl rfl rfl rfl rfl ?_
          | refine WpOps.box _ rfl rfl rfl rfl rfl ?_
          | refine WpOps.alloc _ rfl rfl rfl rfl rfl rfl ?_
          | refine WpOps.store rfl rfl rfl rfl rfl rfl rfl rfl rfl rfl ?_
          | refine WpOps.skip rfl rfl rfl ?_
          | refine WpOps.build _ rfl rfl rfl rfl rfl ?_
          | refine WpOps.sh _ rfl rfl rfl rfl rfl ?_
          | refine WpOps.elem (is[i]).cells rfl rfl rfl rfl rfl rfl rfl rfl rfl (Int.natCast_nonneg i) hc ?_
          | (refine WpOps.loadOut _ rfl rfl rfl rfl rfl hpi.2 rfl rfl rfl ?_)
          | (refine WpOps.call rfl rfl rfl rfl rfl (by exact hAll _) ?_; rintro _ _ ⟨rfl, rfl⟩; rw [List.append_assoc])
          | refine WpOps.gsplit _ rfl rfl rfl (fun h => ?_) (fun h => ?_)
          | refine WpA.block ?_
          | refine WpA.exit ?_
          | refine WpOps.nil ?_
          | refine WpA.ret ?_
          | refine WpA.skip ?_
          | refine WpA.condT rfl ?_
          | refine WpA.condF rfl ?_
          | refine WpA.cond _ rfl (fun h => ?_) (fun h => ?_)
          | refine WpA.draw (by kernel_rfl) ?_
          | refine LexA.op _ rfl rfl rfl rfl rfl ?_
          | refine LexA.skip rfl rfl rfl ?_
          | refine LexA.build _ rfl rfl rfl rfl rfl ?_
          | refine LexA.sh _ rfl rfl rfl rfl rfl ?_
          | refine LexA.gsplit _ rfl rfl rfl (fun h => ?_) (fun h => ?_)
          | refine LexA.nil ?_
        · obtain ⟨M, hM⟩ : ∃ M, M = (Bi ++ [AObj.cells [.yld yn yj], .cells (is[i]).cells]).length := ⟨_, rfl⟩
          have hBx : Bi.length = (Hf (σs i)).length + X.length := by rw [hBi, List.length_append]
          obtain ⟨N, hN⟩ : ∃ N, N = Bi.length + 4 := ⟨_, rfl⟩
          refine WpA.weak (T := [(1, .ptr m q 0), (2, .ptr m q' 0), (3, .ptr Bi.length 0 0), (14, .sl .no 3 (Oct.cellsL is)), (15, .int .i64 (is.length : Nat)), (16, .int .i64 (i : Nat)), (23, .func 108 [.ptr M 0 0, .ptr M 1 0])]) ⟨rfl, rfl, rfl, rfl, rfl, rfl, by rw [hM]; rfl, trivial⟩ ?_
          refine WpA.heap (H' := Hf (σs i) ++ (X ++ [.cells [.yld yn yj], .cells (is[i]).cells, .cells (is[i]).cells, .cells [.int .i64 ((d + 1 : Nat) : Int)]])) (by rw [hBi, List.append_assoc, List.append_assoc]; rfl) ?_
          generalize hL : [AObj.cells [.yld yn yj], .cells (is[i]).cells, .cells (is[i]).cells, .cells [.int .i64 ((d + 1 : Nat) : Int)]] = L'
          have hL4 : L'.length = 4 := by rw [← hL]; rfl
          have hlen : ∀ s', (Hf s' ++ (X ++ L')).length = N := fun s' => by have := hy.len s' (σs i); rw [List.length_append, List.length_append, this, hN, hBx, hL4, Nat.add_assoc]
          refine WpA.rangeI (pl := [24, 25]) (N := N) (fun s' => Hf s' ++ (X ++ L')) (yStep f) ok (σs i) rfl rfl rfl rfl (ih i hi _ _ _) (fun s' X' => ?_) ho.2 hlen ?_ ?_ ?_ (by intro p hp; simp at hp; rcases hp with rfl | rfl <;> decide) ?_ ?_ ?_
          · have e1 : Hf s' ++ (X ++ L') ++ X' = (Hf s' ++ X) ++ (L' ++ X') := by simp
            have e2 : M = (Hf s' ++ X).length + 2 := by rw [hM]; simp [hy.len s' (σs i), hBx]
            rw [e1, e2]
            exact ⟨two_get (j := 2) rfl (by rw [← hL]; rfl), two_get (j := 3) rfl (by rw [← hL]; rfl)⟩
          · intro s' s'' k o hk
            have := hy.tr s' s'' (X ++ L') k o hk
            rwa [hlen s'] at this
          · have h1 := get_lt hpi.1
            have h2 := get_lt hpi.2
            refine ⟨.ptr (by omega), .ptr (by omega), .ptr (by omega), .sl (fun _ _ e => by cases e) (Oct.bdL _ is), .int, .int, .func ?_, trivial⟩
            intro e he
            simp only [List.mem_cons, List.not_mem_nil, or_false] at he
            have : M = Bi.length + 2 := by rw [hM]; simp
            rcases he with rfl | rfl
            · exact .ptr (by omega)
            · exact .ptr (by omega)
          · intro x hx
            obtain ⟨p, _, rfl⟩ := List.mem_map.1 hx
            rfl
          · intro s' x hs' hx hn
            have := hy.next s' x hs' (hyL i hi x hx)
            refine this ?_
            revert hn
            unfold yStep
            cases (f s' x).1 <;> simp
          · intro rec l s' x X' hs' hx C C' hC hC' hCl
            have hfr := hy.app s' x
            obtain ⟨p, hp, rfl⟩ := List.mem_map.1 hx
            have h3 : ∀ (C : List AObj) st, C = Hf s' ++ (X ++ L') ++ (rec st none :: X') → C[Bi.length + 0]? = some (.cells [.yld yn yj]) := fun C st hC => by
              have e1 : C = (Hf s' ++ X) ++ (L' ++ (rec st none :: X')) := by rw [hC]; simp
              have e2 : Bi.length = (Hf s' ++ X).length := by simp [hy.len s' (σs i), hBx]
              rw [e2]
              exact two_get (j := 0) e1 (by rw [← hL]; rfl)
            have hC3 := h3 C' .busy hC'
            repeat' first
              | refine WpA.seq ?_
              | refine WpA.region ?_
              | refine WpOps.op _ rfl rfl rfl rfl rfl ?_
              | refine WpOps.box _ rfl rfl rfl rfl rfl ?_
              | refine WpOps.alloc _ rfl rfl rfl rfl rfl rfl ?_
              | refine WpOps.store rfl rfl rfl rfl rfl rfl rfl rfl rfl rfl ?_
              | refine WpOps.skip rfl rfl rfl ?_
              | refine WpOps.build _ rfl rfl rfl rfl rfl ?_
              | refine WpOps.sh _ rfl rfl rfl rfl rfl ?_
              | refine WpOps.gsplit _ rfl rfl rfl (fun h => ?_) (fun h => ?_)
              | refine WpA.block ?_
              | refine WpA.exit ?_
              | refine WpOps.nil ?_
              | refine WpA.ret ?_
              | refine WpA.skip ?_
              | refine WpA.condT rfl ?_
              | refine WpA.condF rfl ?_
              | refine WpA.cond _ rfl (fun h => ?_) (fun h => ?_)
              | refine WpA.draw (by kernel_rfl) ?_
              | refine LexA.op _ rfl rfl rfl rfl rfl ?_
              | refine LexA.skip rfl rfl rfl ?_
              | refine LexA.build _ rfl rfl rfl rfl rfl ?_
              | refine LexA.sh _ rfl rfl rfl rfl rfl ?_
              | refine LexA.gsplit _ rfl rfl rfl (fun h => ?_) (fun h => ?_)
              | refine LexA.nil ?_
            refine ⟨rfl, _, rfl, ?_⟩
            rw [hCl]
            repeat' first
              | refine WpA.seq ?_
              | refine WpA.region ?_
              | refine WpOps.op _ rfl rfl rfl rfl rfl ?_
              | refine WpOps.box _ rfl rfl rfl rfl rfl ?_
              | refine WpOps.alloc _ rfl rfl rfl rfl rfl rfl ?_
              | refine WpOps.store rfl rfl rfl rfl rfl rfl rfl rfl rfl rfl ?_
              | refine WpOps.skip rfl rfl rfl ?_
              | refine WpOps.build _ rfl rfl rfl rfl rfl ?_
              | refine WpOps.sh _ rfl rfl rfl rfl rfl ?_
              | (refine WpOps.loadOut _ rfl rfl rfl rfl rfl hC3 rfl rfl rfl ?_)
              | refine WpOps.gsplit _ rfl rfl rfl (fun h => ?_) (fun h => ?_)
              | refine WpA.block ?_
              | refine WpA.exit ?_
              | refine WpOps.nil ?_
              | refine WpA.ret ?_
              | refine WpA.skip ?_
              | refine WpA.condT rfl ?_
              | refine WpA.condF rfl ?_
              | refine WpA.cond _ rfl (fun h => ?_) (fun h => ?_)
              | refine WpA.draw (by kernel_rfl) ?_
              | refine LexA.op _ rfl rfl rfl rfl rfl ?_
              | refine LexA.skip rfl rfl rfl ?_
              | refine LexA.build _ rfl rfl rfl rfl rfl ?_
              | refine LexA.sh _ rfl rfl rfl rfl rfl ?_
              | refine LexA.gsplit _ rfl rfl rfl (fun h => ?_) (fun h => ?_)
              | refine LexA.nil ?_
            have hfr2 := hy.app s' (itemOf p.1 p.2) (X ++ L' ++ (rec .busy none :: X') ++ [.cells p.1.cells]) hs' (hyL i hi _ hx)
            have e3 : Hf s' ++ (X ++ L' ++ (rec .busy none :: X') ++ [.cells p.1.cells]) = C' ++ [.cells p.1.cells] := by rw [hC']; simp
            rw [e3] at hfr2
            refine WpOps.callV rfl rfl rfl rfl rfl hfr2 ?_
            rintro _ _ ⟨rfl, rfl⟩
            have e4 : Hf (f s' (itemOf p.1 p.2)).2 ++ (X ++ L' ++ (rec .busy none :: X') ++ [.cells p.1.cells]) = (Hf (f s' (itemOf p.1 p.2)).2 ++ (X ++ L') ++ (rec .busy none :: X')) ++ [.cells p.1.cells] := by simp
            rw [e4]
            generalize hC2 : Hf (f s' (itemOf p.1 p.2)).2 ++ (X ++ L') ++ (rec .busy none :: X') = C2
            repeat' first
              | refine WpA.seq ?_
              | refine WpA.region ?_
              | refine WpOps.op _ rfl rfl rfl rfl rfl ?_
              | refine WpOps.box _ rfl rfl rfl rfl rfl ?_
              | refine WpOps.alloc _ rfl rfl rfl rfl rfl rfl ?_
              | refine WpOps.store rfl rfl rfl rfl rfl rfl rfl rfl rfl rfl ?_
              | refine WpOps.skip rfl rfl rfl ?_
              | refine WpOps.build _ rfl rfl rfl rfl rfl ?_
              | refine WpOps.sh _ rfl rfl rfl rfl rfl ?_
              | refine WpOps.gsplit _ rfl rfl rfl (fun h => ?_) (fun h => ?_)
              | refine WpA.block ?_
              | refine WpA.exit ?_
              | refine WpOps.nil ?_
              | refine WpA.ret ?_
              | refine WpA.skip ?_
              | refine WpA.condT rfl ?_
              | refine WpA.condF rfl ?_
              | refine WpA.cond _ rfl (fun h => ?_) (fun h => ?_)
              | refine WpA.draw (by kernel_rfl) ?_
              | refine LexA.op _ rfl rfl rfl rfl rfl ?_
              | refine LexA.skip rfl rfl rfl ?_
              | refine LexA.build _ rfl rfl rfl rfl rfl ?_
              | refine LexA.sh _ rfl rfl rfl rfl rfl ?_
              | refine LexA.gsplit _ rfl rfl rfl (fun h => ?_) (fun h => ?_)
              | refine LexA.nil ?_
            · refine ⟨[.cells p.1.cells], by rw [← hC2]; rfl, ?_⟩
              have hb : (f s' (itemOf p.1 p.2)).1 = false := by simpa using h
              show (bif (f s' (itemOf p.1 p.2)).1 then none else some .ret) = some Code.ret
              rw [hb]; rfl
            · refine ⟨[.cells p.1.cells], by rw [← hC2]; rfl, ?_⟩
              have hb : (f s' (itemOf p.1 p.2)).1 = true := by simpa using h
              show (bif (f s' (itemOf p.1 p.2)).1 then none else some Code.ret) = none
              rw [hb]; rfl
          · intro rec
            rw [runStep_y]
            have hrun1 : ∀ n, i < n → n ≤ is.length → itsL (is.take n) (d + 1) = itsL (is.take i) (d + 1) ++ (is[i].its (d + 1) ++ itsL ((is.take n).drop (i + 1)) (d + 1)) := fun n h1 h2 => by
              have : is.take n = is.take (i + 1) ++ (is.take n).drop (i + 1) := by
                have := List.take_append_drop (i + 1) (is.take n)
                rw [List.take_take, Nat.min_eq_left (by omega)] at this
                exact this.symm
              conv => lhs; rw [this, itsL, preL_append, List.map_append]
              have h2 := itsL_take hi (d + 1)
              unfold itsL at h2 ⊢
              rw [h2, List.append_assoc]
            cases ha : allIt f (σs i) (is[i].its (d + 1)) with
            | true =>
              have hnxt : σs (i + 1) = runIt f (σs i) (is[i].its (d + 1)) := by
                show runIt f s1 (itsL (is.take (i + 1)) (d + 1)) = _
                rw [itsL_take hi, runIt_append, ho.1]; rfl
              repeat' first
                | refine WpA.seq ?_
                | refine WpA.region ?_
                | refine WpOps.op _ rfl rfl rfl rfl rfl ?_
                | refine WpOps.box _ rfl rfl rfl rfl rfl ?_
                | refine WpOps.alloc _ rfl rfl rfl rfl rfl rfl ?_
                | refine WpOps.store rfl rfl rfl rfl rfl rfl rfl rfl rfl rfl ?_
                | refine WpOps.skip rfl rfl rfl ?_
                | refine WpOps.build _ rfl rfl rfl rfl rfl ?_
                | refine WpOps.sh _ rfl rfl rfl rfl rfl ?_
                | refine WpOps.gsplit _ rfl rfl rfl (fun h => ?_) (fun h => ?_)
                | refine WpA.block ?_
                | refine WpA.exit ?_
                | refine WpOps.nil ?_
                | refine WpA.ret ?_
                | refine WpA.skip ?_
                | refine WpA.condT rfl ?_
                | refine WpA.condF rfl ?_
                | refine WpA.cond _ rfl (fun h => ?_) (fun h => ?_)
                | refine WpA.draw (by kernel_rfl) ?_
                | refine LexA.op _ rfl rfl rfl rfl rfl ?_
                | refine LexA.skip rfl rfl rfl ?_
                | refine LexA.build _ rfl rfl rfl rfl rfl ?_
                | refine LexA.sh _ rfl rfl rfl rfl rfl ?_
                | refine LexA.gsplit _ rfl rfl rfl (fun h => ?_) (fun h => ?_)
                | refine LexA.nil ?_
              refine ⟨⟨?_, ?_⟩, ⟨rfl, rfl, ?_, rfl, rfl, congrArg (AV.int .i64) ?_, trivial⟩, L'.tail ++ [rec .exhausted none], ?_⟩
              · rw [itsL_take hi, allIt_append, ho.1]; exact ha
              · rw [hnxt]; exact runIt_ok (hy.sub (hyL i hi)) ho.2 ha
              · rfl
              · rw [wrap64 (by omega) (by omega)]; omega
              · rw [hnxt, ← hL]; simp
            | false =>
              have hfin : runIt f s1 (itsL is (d + 1)) = runIt f (σs i) (is[i].its (d + 1)) := by
                have h9 := hrun1 is.length hi (Nat.le_refl _)
                rw [List.take_length] at h9
                rw [h9, runIt_append, ho.1]
                show runIt f (σs i) _ = _
                rw [runIt_append, ha]; rfl
              have hX : Hf (runIt f (σs i) (is[i].its (d + 1))) ++ (X ++ L') ++ [rec .exhausted (bif false then none else some Code.ret)] = (Hf (runIt f (σs i) (is[i].its (d + 1))) ++ X) ++ (L' ++ [rec .exhausted (some .ret)]) := by simp
              rw [hX]
              refine retK.tag (.inr rfl) (by rw [hBl']; simp [hy.len (runIt f (σs i) (is[i].its (d + 1))) s]) (htr _) rfl rfl (.tup (by simp)) ⟨rfl, ?_⟩
              show _ = Hf (runIt f s1 (itsL is (d + 1))) ++ X
              rw [hfin]
        · simp at h
          omega
      · repeat' first
          | refine WpA.seq ?_
          | refine WpA.region ?_
          | refine WpOps.op _ rfl rfl rfl rfl rfl ?_
          | refine WpOps.box _ rfl rfl rfl rfl rfl ?_
          | refine WpOps.alloc _ rfl rfl rfl rfl rfl rfl ?_
          | refine WpOps.store rfl rfl rfl rfl rfl rfl rfl rfl rfl rfl ?_
          | refine WpOps.skip rfl rfl rfl ?_
          | refine WpOps.build _ rfl rfl rfl rfl rfl ?_
          | refine WpOps.sh _ rfl rfl rfl rfl rfl ?_
          | refine WpOps.gsplit _ rfl rfl rfl (fun h => ?_) (fun h => ?_)
          | refine WpA.block ?_
          | refine WpA.exit ?_
          | refine WpOps.nil ?_
          | refine WpA.ret ?_
          | refine WpA.skip ?_
          | refine WpA.condT rfl ?_
          | refine WpA.condF rfl ?_
          | refine WpA.cond _ rfl (fun h => ?_) (fun h => ?_)
          | refine WpA.draw (by kernel_rfl) ?_
          | refine LexA.op _ rfl rfl rfl rfl rfl ?_
          | refine LexA.skip rfl rfl rfl ?_
          | refine LexA.build _ rfl rfl rfl rfl rfl ?_
          | refine LexA.sh _ rfl rfl rfl rfl rfl ?_
          | refine LexA.gsplit _ rfl rfl rfl (fun h => ?_) (fun h => ?_)
          | refine LexA.nil ?_
        · simp at h
        · refine retK.tag (.inr rfl) (by rw [hBl']; simp [hy.len s (σs is.length)]) (htr _) rfl rfl (.tup (by simp)) ⟨rfl, ?_⟩
          show Hf (runIt f s1 (itsL (is.take is.length) (d + 1))) ++ X = Hf (runIt f s1 (itsL is (d + 1))) ++ X
          rw [List.take_length]
termination_by o => SizeOf.sizeOf o
decreasing_by exact sizeOf_get h
end Go.Gp.Tryd

/- The octet codec: Check, Encode. -/
namespace Go.Gp.Tryd
open Go.Proofs
set_option linter.unusedVariables false
set_option linter.unusedSimpArgs false
set_option maxHeartbeats 4000000
set_option maxRecDepth 100000

def Oct.good (o : Oct) : Bool := decide (0 < o.tag.toNat) && (decide (128 ≤ o.tag.toNat) || o.items.length == 0) && (decide (o.tag.toNat < 128) || o.bs.length == 0)
def checkP (o : Oct) : Nat := if (decide (4000 < 0 + (o.pre 1).length) || (o.pre 1).any fun p => decide (12 < p.2)) then 4 else if (o.pre 1).all (fun p => p.1.good) then (if 65536 < o.size then 4 else 0) else 8

structure ChkS where
  n : Nat
  ok : Bool
  e : Int

def itDepth : List AV → Int
  | [_, .int _ d] => d
  | _ => 0
def itGood : List AV → Bool
  | [.agg [.int _ t, .sl _ _ bs, .sl _ _ is], _] => decide (0 < t) && (decide (128 ≤ t) || is.length == 0) && (decide (t < 128) || bs.length == 0)
  | _ => false

def chkStep (s : ChkS) (x : List AV) : ChkS × Option Code :=
  if decide (4000 < s.n + 1) || decide (12 < itDepth x) then ({ s with n := s.n + 1, e := 4 }, some .ret) else ({ s with n := s.n + 1, ok := s.ok && itGood x }, none)

theorem itDepth_eq (o : Oct) (d : Nat) : itDepth (itemOf o d) = (d : Int) := rfl
theorem itGood_eq (o : Oct) (d : Nat) : itGood (itemOf o d) = o.good := by
  show (decide ((0 : Int) < (o.tag.toNat : Int)) && (decide ((128 : Int) ≤ (o.tag.toNat : Int)) || (Oct.cellsL o.items).length == 0) && (decide ((o.tag.toNat : Int) < 128) || (o.bs.map byteRow).length == 0)) = _
  rw [cellsL_length, List.length_map, Oct.good]
  congr 1
  · congr 1
    · exact decide_eq_decide.2 (by omega)
    · congr 1
      exact decide_eq_decide.2 (by omega)
  · congr 1
    exact decide_eq_decide.2 (by omega)

def chkBad (n : Nat) (ps : List (Oct × Nat)) : Bool := decide (4000 < n + ps.length) || ps.any fun p => decide (12 < p.2)

theorem chk_run : ∀ (ps : List (Oct × Nat)) (s : ChkS), s.n ≤ 4000 →
    (chkBad s.n ps = true → (runStep chkStep s (ps.map fun p => itemOf p.1 p.2)).1.e = 4 ∧ (runStep chkStep s (ps.map fun p => itemOf p.1 p.2)).2 = some .ret) ∧
    (chkBad s.n ps = false → runStep chkStep s (ps.map fun p => itemOf p.1 p.2) = ({ n := s.n + ps.length, ok := s.ok && ps.all (fun p => p.1.good), e := s.e }, none))
  | [], s, h => by
    have : ¬ 4000 < s.n := by omega
    simp [runStep, this, chkBad]
  | (o, d) :: ps, s, h => by
    simp only [List.map_cons, runStep]
    by_cases h1 : (decide (4000 < s.n + 1) || decide (12 < itDepth (itemOf o d))) = true
    · have h2 : chkStep s (itemOf o d) = ({ s with n := s.n + 1, e := 4 }, some .ret) := by rw [chkStep, if_pos h1]
      rw [h2]
      have h3 : chkBad s.n ((o, d) :: ps) = true := by
        rw [itDepth_eq] at h1
        simp only [chkBad, Bool.or_eq_true, decide_eq_true_eq, List.any_cons, List.length_cons] at h1 ⊢
        rcases h1 with h1 | h1
        · exact .inl (by omega)
        · exact .inr (.inl (show 12 < d by omega))
      exact ⟨fun _ => ⟨rfl, rfl⟩, fun h4 => by rw [h3] at h4; cases h4⟩
    · have h2 : chkStep s (itemOf o d) = ({ s with n := s.n + 1, ok := s.ok && o.good }, none) := by rw [chkStep, if_neg h1, itGood_eq]
      rw [h2]
      rw [itDepth_eq] at h1
      simp only [Bool.or_eq_true, decide_eq_true_eq, not_or] at h1
      have ih := chk_run ps { s with n := s.n + 1, ok := s.ok && o.good } (by show s.n + 1 ≤ 4000; omega)
      have h4 : chkBad (s.n + 1) ps = chkBad s.n ((o, d) :: ps) := by
        have h5 : decide (12 < d) = false := by have := h1.2; simp only [decide_eq_false_iff_not]; omega
        have h6 : decide (4000 < s.n + 1 + ps.length) = decide (4000 < s.n + ((o, d) :: ps).length) := decide_eq_decide.2 (by simp only [List.length_cons]; omega)
        simp only [chkBad, List.any_cons, h5, Bool.false_or, h6]
      rw [← h4]
      refine ⟨ih.1, fun h5 => (ih.2 h5).trans ?_⟩
      simp only [List.all_cons, List.length_cons, Bool.and_assoc]
      congr 2
      omega

theorem octCheck_A (o : Oct) (H : List AObj) (hs : o.size ≤ 1125899906842) : CallsA E 73 [.agg o.cells] H (Is H (.int .i64 (checkP o : Nat))) := by
  have hall : ∀ H, CallsA E 88 [.agg o.cells, .int .i64 1] H _ := fun H => all_A o 1 H
  refine .enter Tryd.func73 rfl rfl rfl 52 Tryd.ntmps73 (Nat.le_of_ble_eq_true rfl) ?_
  repeat' first
    | refine WpA.seq ?_
    | refine WpA.region ?_
    | refine WpOps.op _ rfl rfl rfl rfl rfl ?_
    | refine WpOps.box _ rfl rfl rfl rfl rfl ?_
    | refine WpOps.alloc _ rfl rfl rfl rfl rfl rfl ?_
    | refine WpOps.store rfl rfl rfl rfl rfl rfl rfl rfl rfl rfl ?_
    | refine WpOps.skip rfl rfl rfl ?_
    | refine WpOps.build _ rfl rfl rfl rfl rfl ?_
    | refine WpOps.sh _ rfl rfl rfl rfl rfl ?_
    | (refine WpOps.call rfl rfl rfl rfl rfl (by exact hall _) ?_; rintro _ _ ⟨rfl, rfl⟩)
    | refine WpOps.gsplit _ rfl rfl rfl (fun h => ?_) (fun h => ?_)
    | refine WpA.block ?_
    | refine WpA.exit ?_
    | refine WpOps.nil ?_
    | refine WpA.ret ?_
    | refine WpA.skip ?_
    | refine WpA.condT rfl ?_
    | refine WpA.condF rfl ?_
    | refine WpA.cond _ rfl (fun h => ?_) (fun h => ?_)
    | refine WpA.draw (by kernel_rfl) ?_
    | refine LexA.op _ rfl rfl rfl rfl rfl ?_
    | refine LexA.skip rfl rfl rfl ?_
    | refine LexA.build _ rfl rfl rfl rfl rfl ?_
    | refine LexA.sh _ rfl rfl rfl rfl rfl ?_
    | refine LexA.gsplit _ rfl rfl rfl (fun h => ?_) (fun h => ?_)
    | refine LexA.nil ?_
  let L0 : ChkS → List AObj := fun s => [.cells o.cells, .cells [.int .i64 s.e], .cells [.int .i64 (s.n : Nat)], .cells [.bool s.ok], .cells o.cells, .cells [.int .i64 1]]
  refine WpA.weak (T := [(1, .ptr H.length 0 0), (2, .ptr H.length 1 0), (3, .ptr H.length 2 0), (4, .ptr H.length 3 0), (8, .func 108 [.ptr (H.length + 4) 0 0, .ptr (H.length + 4) 1 0])]) ⟨rfl, rfl, rfl, rfl, ?_, trivial⟩ ?_
  · show AV.func 108 [.ptr (H ++ _).length 0 0, .ptr (H ++ _).length 1 0] = _
    rw [List.length_append]; rfl
  have hlen : ∀ s, (H ++ L0 s).length = H.length + 6 := fun s => by rw [List.length_append]; rfl
  have hI := all1_A o 1 (H.length + 4) 0 1 (by omega)
  refine WpA.heap (H' := H ++ L0 ⟨0, true, 0⟩) ((List.append_assoc H _ _).trans rfl) ?_
  refine WpA.rangeI (pl := [9, 10]) (N := H.length + 6) (fun s => H ++ L0 s) chkStep (fun s => s.n ≤ 4000) ⟨0, true, 0⟩ rfl rfl rfl rfl hI (fun s X => ?_) (Nat.zero_le _) hlen ?_ ?_ ?_ (by intro p hp; simp at hp; rcases hp with rfl | rfl <;> decide) ?_ ?_ ?_
  · exact ⟨two_get (H0 := H) (L0 := L0 s) (X := X) (j := 4) (by rw [List.append_assoc]) rfl, two_get (H0 := H) (L0 := L0 s) (X := X) (j := 5) (by rw [List.append_assoc]) rfl⟩
  · intro s s' i ob hi
    rcases Nat.lt_or_ge i H.length with hlt | hge
    · rw [List.getElem?_append_left hlt] at hi ⊢
      exact .inl hi
    · rw [List.getElem?_append_right hge] at hi
      refine .inr ?_
      generalize i - H.length = k at hi
      have hm : ob ∈ L0 s' := List.mem_of_getElem? hi
      simp only [L0, List.mem_cons, List.not_mem_nil, or_false] at hm
      rcases hm with rfl | rfl | rfl | rfl | rfl | rfl
      all_goals refine obd_cells fun a ha => ?_
      all_goals first
        | exact Oct.bd _ o a ha
        | (have := List.mem_singleton.1 ha; subst this; first | exact .int | exact .bool)
  · refine ⟨.ptr (by omega), .ptr (by omega), .ptr (by omega), .ptr (by omega), .func ?_, trivial⟩
    intro e he
    simp only [List.mem_cons, List.not_mem_nil, or_false] at he
    rcases he with rfl | rfl
    · exact .ptr (by omega)
    · exact .ptr (by omega)
  · intro x hx
    obtain ⟨p, _, rfl⟩ := List.mem_map.1 hx
    rfl
  · intro s x hs' hx hn
    unfold chkStep at hn ⊢
    split at hn
    · cases hn
    · rename_i h1
      rw [if_neg h1]
      simp only [Bool.or_eq_true, decide_eq_true_eq, not_or] at h1
      show s.n + 1 ≤ 4000
      omega
  · intro rec l s x X hs' hx C C' hC hC' hCl
    obtain ⟨p, hp, rfl⟩ := List.mem_map.1 hx
    have hs'' : s.n ≤ 4000 := hs'
    have hw : IntKind.i64.wrap ((s.n : Int) + 1) = ((s.n + 1 : Nat) : Int) := by rw [wrap64 (by omega) (by omega)]; omega
    repeat' first
      | refine WpA.seq ?_
      | refine WpA.region ?_
      | refine WpOps.op _ rfl rfl rfl rfl rfl ?_
      | refine WpOps.box _ rfl rfl rfl rfl rfl ?_
      | refine WpOps.alloc _ rfl rfl rfl rfl rfl rfl ?_
      | refine WpOps.store rfl rfl rfl rfl rfl rfl rfl rfl rfl rfl ?_
      | refine WpOps.skip rfl rfl rfl ?_
      | refine WpOps.build _ rfl rfl rfl rfl rfl ?_
      | refine WpOps.sh _ rfl rfl rfl rfl rfl ?_
      | refine WpOps.gsplit _ rfl rfl rfl (fun h => ?_) (fun h => ?_)
      | refine WpA.block ?_
      | refine WpA.exit ?_
      | refine WpOps.nil ?_
      | refine WpA.ret ?_
      | refine WpA.skip ?_
      | refine WpA.condT rfl ?_
      | refine WpA.condF rfl ?_
      | refine WpA.cond _ rfl (fun h => ?_) (fun h => ?_)
      | refine WpA.draw (by kernel_rfl) ?_
      | refine LexA.op _ rfl rfl rfl rfl rfl ?_
      | refine LexA.skip rfl rfl rfl ?_
      | refine LexA.build _ rfl rfl rfl rfl rfl ?_
      | refine LexA.sh _ rfl rfl rfl rfl rfl ?_
      | refine LexA.gsplit _ rfl rfl rfl (fun h => ?_) (fun h => ?_)
      | refine LexA.nil ?_
    refine ⟨rfl, _, rfl, ?_⟩
    rw [hCl]
    clear hC hCl C
    have hC := hC'.trans (List.append_assoc _ _ _)
    clear hC'
    repeat' first
      | refine WpOps.load2 hC _ rfl rfl rfl rfl rfl rfl rfl rfl rfl ?_
      | (refine WpOps.store2 hC rfl rfl rfl rfl rfl rfl rfl rfl rfl rfl (fun C hC hCl => ?_); rw [hCl])
      | refine WpA.seq ?_
      | refine WpA.region ?_
      | refine WpOps.op _ rfl rfl rfl rfl rfl ?_
      | refine WpOps.box _ rfl rfl rfl rfl rfl ?_
      | refine WpOps.alloc _ rfl rfl rfl rfl rfl rfl ?_
      | refine WpOps.store rfl rfl rfl rfl rfl rfl rfl rfl rfl rfl ?_
      | refine WpOps.skip rfl rfl rfl ?_
      | refine WpOps.build _ rfl rfl rfl rfl rfl ?_
      | refine WpOps.sh _ rfl rfl rfl rfl rfl ?_
      | refine WpOps.gsplit _ rfl rfl rfl (fun h => ?_) (fun h => ?_)
      | refine WpA.block ?_
      | refine WpA.exit ?_
      | refine WpOps.nil ?_
      | refine WpA.ret ?_
      | refine WpA.skip ?_
      | refine WpA.condT rfl ?_
      | refine WpA.condF rfl ?_
      | refine WpA.cond _ rfl (fun h => ?_) (fun h => ?_)
      | refine WpA.draw (by kernel_rfl) ?_
      | refine LexA.op _ rfl rfl rfl rfl rfl ?_
      | refine LexA.skip rfl rfl rfl ?_
      | refine LexA.build _ rfl rfl rfl rfl rfl ?_
      | refine LexA.sh _ rfl rfl rfl rfl rfl ?_
      | refine LexA.gsplit _ rfl rfl rfl (fun h => ?_) (fun h => ?_)
      | refine LexA.nil ?_
    · have hst : chkStep s (itemOf p.1 p.2) = ({ s with n := s.n + 1, e := 4 }, some .ret) := by
        rw [chkStep, if_pos]
        rw [hw] at h
        simp only [Bool.or_eq_true, decide_eq_true_eq] at h ⊢
        exact .inl (by omega)
      rw [hst]
      exact ⟨[.cells p.1.cells], by rw [hC, ← List.append_assoc H]; show _ = (H ++ [_, _, .cells [.int .i64 ((s.n + 1 : Nat) : Int)], _, _, _] ++ _) ++ _; rw [← hw]; rfl, rfl⟩
    · have hst : chkStep s (itemOf p.1 p.2) = ({ s with n := s.n + 1, e := 4 }, some .ret) := by
        rw [chkStep, if_pos]
        simp only [Bool.or_eq_true, decide_eq_true_eq, itDepth_eq] at h ⊢
        exact .inr h
      rw [hst]
      exact ⟨[.cells p.1.cells], by rw [hC, ← List.append_assoc H]; show _ = (H ++ [_, _, .cells [.int .i64 ((s.n + 1 : Nat) : Int)], _, _, _] ++ _) ++ _; rw [← hw]; rfl, rfl⟩
    all_goals
      have hst : chkStep s (itemOf p.1 p.2) = ({ s with n := s.n + 1, ok := s.ok && p.1.good }, none) := by
        rw [chkStep, if_neg, itGood_eq]
        rw [itDepth_eq]
        simp only [cond_true, cond_false, hw, decide_eq_false_iff_not] at *
        simp only [Bool.or_eq_true, decide_eq_true_eq]
        omega
      rw [hst]
      refine ⟨[.cells p.1.cells], ?_, rfl⟩
      rw [hC, ← List.append_assoc H]
      show (H ++ [_, _, .cells [.int .i64 _], .cells [.bool _], _, _] ++ _) ++ _ = (H ++ [_, _, .cells [.int .i64 ((s.n + 1 : Nat) : Int)], .cells [.bool (s.ok && p.1.good)], _, _] ++ _) ++ _
      rw [← hw]
      congr 7
      refine congrArg (fun b => AObj.cells [AV.bool b]) ?_
      simp only [Oct.good, List.length_map, cellsL_length]
      simp only [List.length_map, cellsL_length, cond_true, cond_false] at *
      have e1 : ∀ n : Nat, ((n : Int) == 0) = (n == 0) := fun n => by rw [Bool.eq_iff_iff]; simp
      have e2 : decide ((p.1.tag.toNat : Int) > 0) = decide (0 < p.1.tag.toNat) := decide_eq_decide.2 (by omega)
      have e3 : decide ((p.1.tag.toNat : Int) ≥ 128) = decide (128 ≤ p.1.tag.toNat) := decide_eq_decide.2 (by omega)
      have e4 : decide ((p.1.tag.toNat : Int) < 128) = decide (p.1.tag.toNat < 128) := decide_eq_decide.2 (by omega)
      simp only [e1, e2, e3, e4] at *
      simp [*]
  · intro rec
    have hits : o.its 1 = (o.pre 1).map fun p => itemOf p.1 p.2 := rfl
    rw [hits]
    have hrun := chk_run (o.pre 1) ⟨0, true, 0⟩ (Nat.zero_le _)
    rw [List.append_assoc]
    cases hb : chkBad 0 (o.pre 1) with
    | true =>
      obtain ⟨h1, h2⟩ := hrun.1 hb
      have hcp : checkP o = 4 := by unfold checkP; unfold chkBad at hb; rw [if_pos hb]
      rw [h2, hcp]
      generalize (runStep chkStep ⟨0, true, 0⟩ ((o.pre 1).map fun p => itemOf p.1 p.2)).1 = st at h1 ⊢
      exact retK.ok rfl rfl (by show AV.int .i64 st.e = _; rw [h1]; rfl) .int
    | false =>
      rw [hrun.2 hb]
      have hcp : checkP o = if (o.pre 1).all (fun p => p.1.good) then (if 65536 < o.size then 4 else 0) else 8 := by unfold checkP; unfold chkBad at hb; rw [if_neg (by rw [hb]; simp)]
      have hsz := fun H => size_A o H (by omega)
      rw [hcp]
      repeat' first
        | refine WpA.seq ?_
        | refine WpA.region ?_
        | refine WpOps.op _ rfl rfl rfl rfl rfl ?_
        | refine WpOps.box _ rfl rfl rfl rfl rfl ?_
        | refine WpOps.alloc _ rfl rfl rfl rfl rfl rfl ?_
        | refine WpOps.store rfl rfl rfl rfl rfl rfl rfl rfl rfl rfl ?_
        | refine WpOps.skip rfl rfl rfl ?_
        | refine WpOps.build _ rfl rfl rfl rfl rfl ?_
        | refine WpOps.sh _ rfl rfl rfl rfl rfl ?_
        | (refine WpOps.call rfl rfl rfl rfl rfl (by exact hsz _) ?_; rintro _ _ ⟨rfl, rfl⟩)
        | refine WpOps.gsplit _ rfl rfl rfl (fun h => ?_) (fun h => ?_)
        | refine WpA.block ?_
        | refine WpA.exit ?_
        | refine WpOps.nil ?_
        | refine WpA.ret ?_
        | refine WpA.skip ?_
        | refine WpA.condT rfl ?_
        | refine WpA.condF rfl ?_
        | refine WpA.cond _ rfl (fun h => ?_) (fun h => ?_)
        | refine WpA.draw (by kernel_rfl) ?_
        | refine LexA.op _ rfl rfl rfl rfl rfl ?_
        | refine LexA.skip rfl rfl rfl ?_
        | refine LexA.build _ rfl rfl rfl rfl rfl ?_
        | refine LexA.sh _ rfl rfl rfl rfl rfl ?_
        | refine LexA.call rfl rfl rfl rfl rfl (by exact hsz _) ?_
        | refine LexA.gsplit _ rfl rfl rfl (fun h => ?_) (fun h => ?_)
        | refine LexA.nil ?_
      · have hg : (o.pre 1).all (fun p => p.1.good) = false := by simpa using h
        rw [hg]
        exact retK.ok rfl rfl rfl .int
      · rename_i h1
        have hg : (o.pre 1).all (fun p => p.1.good) = true := by simpa using h1
        rw [hg]
        have h2 : 65536 < o.size := by simp at h; omega
        rw [if_pos rfl, if_pos h2]
        exact retK.ok rfl rfl rfl .int
      · rename_i h1
        have hg : (o.pre 1).all (fun p => p.1.good) = true := by simpa using h1
        rw [hg]
        have h2 : ¬ 65536 < o.size := by simp at h; omega
        rw [if_pos rfl, if_neg h2]
        exact retK.ok rfl rfl rfl .int

theorem putNil_A (o : Oct) (H : List AObj) (hs : o.size ≤ 1125899906842) : CallsA E 74 [.sl .full 0 [], .agg o.cells] H (Is H (.sl .no 1 (o.enc.map byteRow))) := by
  refine CallsA.cut rfl (TrOk.refl H) (bd_slB _) ?_
  refine CallsA.adopt (us := []) (ws := [.agg o.cells]) (z := 1) ?_
  refine (put_A o [] H.length 0 (H ++ [.tail 0 1]) (by rw [List.getElem?_append_right (by omega)]; simp) (by simpa using hs)).mono ?_
  rintro e H' ⟨rfl, rfl⟩
  refine ⟨[.tail o.enc.length 1], _, ?_, rfl, Sub.untag⟩
  rw [Nat.add_zero, List.set_append_right _ _ (Nat.le_refl _), Nat.sub_self]
  rfl

theorem octEncode_A (o : Oct) (H : List AObj) (hs : o.size ≤ 1125899906842) :
    CallsA E 48 [.agg o.cells] H (Is H (.tup [.sl .no 1 (if checkP o = 0 then o.enc.map byteRow else []), .int .i64 (checkP o : Nat)])) := by
  refine .enter Tryd.func48 rfl rfl rfl 12 Tryd.ntmps48 (Nat.le_of_ble_eq_true rfl) ?_
  repeat' first
    | refine WpA.seq ?_
    | refine WpA.region ?_
    | refine WpOps.op _ rfl rfl rfl rfl rfl ?_
    | refine WpOps.box _ rfl rfl rfl rfl rfl ?_
    | refine WpOps.alloc _ rfl rfl rfl rfl rfl rfl ?_
    | refine WpOps.store rfl rfl rfl rfl rfl rfl rfl rfl rfl rfl ?_
    | refine WpOps.skip rfl rfl rfl ?_
    | refine WpOps.build _ rfl rfl rfl rfl rfl ?_
    | refine WpOps.sh _ rfl rfl rfl rfl rfl ?_
    | (refine WpOps.call rfl rfl rfl rfl rfl (by exact octCheck_A o _ hs) ?_; rintro _ _ ⟨rfl, rfl⟩)
    | (refine WpOps.call rfl rfl rfl rfl rfl (by exact putNil_A o _ hs) ?_; rintro _ _ ⟨rfl, rfl⟩)
    | refine WpOps.gsplit _ rfl rfl rfl (fun h => ?_) (fun h => ?_)
    | refine WpA.block ?_
    | refine WpA.exit ?_
    | refine WpOps.nil ?_
    | refine WpA.ret ?_
    | refine WpA.skip ?_
    | refine WpA.condT rfl ?_
    | refine WpA.condF rfl ?_
    | refine WpA.cond _ rfl (fun h => ?_) (fun h => ?_)
    | refine WpA.draw (by kernel_rfl) ?_
    | refine LexA.op _ rfl rfl rfl rfl rfl ?_
    | refine LexA.skip rfl rfl rfl ?_
    | refine LexA.build _ rfl rfl rfl rfl rfl ?_
    | refine LexA.sh _ rfl rfl rfl rfl rfl ?_
    | refine LexA.call rfl rfl rfl rfl rfl (by exact octCheck_A o _ hs) ?_
    | refine LexA.call rfl rfl rfl rfl rfl (by exact putNil_A o _ hs) ?_
    | refine LexA.gsplit _ rfl rfl rfl (fun h => ?_) (fun h => ?_)
    | refine LexA.nil ?_
  · have hc : checkP o ≠ 0 := by simp at h; omega
    rw [if_neg hc]
    exact retK.sub (.inr rfl) rfl (TrOk.refl H) (L := _) rfl rfl (Sub.tup (vs := [.sl .no 1 [], .int .i64 (checkP o : Nat)]) ⟨Sub.empty, Sub.refl _, trivial⟩) (.tup (by intro e he; simp at he; rcases he with rfl | rfl; exact bd_slB []; exact .int)) ⟨rfl, rfl⟩
  · have hc : checkP o = 0 := by simp at h; omega
    rw [if_pos hc, hc]
    exact retK.ok rfl rfl rfl (.tup (by intro e he; simp at he; rcases he with rfl | rfl; exact bd_slB _; exact .int))
end Go.Gp.Tryd
