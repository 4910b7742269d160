/- Part of a proof: GdY7, GdY8 -/
import Derived.Test.YtmacdhglhafldaaDoorK16
import Derived.Test.YtmacdhglhafldaaDoorK24
import Derived.Test.YtmacdhglhafldaaDoorK26

/- The reference of manifests: Make. -/
namespace Go.Gp.Tryd
open Go.Proofs
set_option linter.unusedVariables false
set_option linter.unusedSimpArgs false
set_option maxHeartbeats 4000000
set_option maxRecDepth 100000

def ofN (f : NFile) : File := ⟨f.name, sha f.bytes⟩
def Srt (xs : List File) : Prop := xs.Pairwise fun f g => f.name ≤ g.name
theorem made_unique {fs : List NFile} {xs : List File} (hn : (names fs).Nodup) (hp : xs.Perm (fs.map ofN)) (hs : Srt xs) : xs = makeFs fs := by
  have h1 : fnames xs = sortB (names fs) := by
    refine sortB_unique ?_ ?_
    · have := hp.map File.name
      rw [List.map_map] at this
      exact this
    · exact List.pairwise_map.2 hs
  have h2 : xs.map (fun x => hashOf fs x.name) = xs := by
    refine (List.map_congr_left (g := id) fun x hx => ?_).trans (List.map_id _)
    obtain ⟨f, hf, rfl⟩ := List.mem_map.1 (hp.mem_iff.1 hx)
    exact hashOf_of hf hn
  rw [makeFs, ← h1, fnames, List.map_map]
  exact h2.symm
theorem put_sorted {xs : List File} {f : File} {k : Nat} (hk : k ≤ xs.length) (hs : Srt xs) (hlo : ∀ j (hj : j < k), lt (xs[j]'(by omega)).name f.name = true) (hhi : ∀ h : k < xs.length, lt (xs[k]).name f.name = false) :
    Srt (xs.take k ++ f :: xs.drop k) ∧ (xs.take k ++ f :: xs.drop k).Perm (f :: xs) := by
  have hg := List.pairwise_iff_getElem.1 hs
  refine ⟨List.pairwise_append.2 ⟨hs.sublist (List.take_sublist _ _), List.pairwise_cons.2 ⟨fun y hy => ?_, hs.sublist (List.drop_sublist _ _)⟩, fun x hx y hy => ?_⟩, ?_⟩
  · obtain ⟨i, hi, rfl⟩ := List.mem_iff_getElem.1 hy
    rw [List.length_drop] at hi
    rw [List.getElem_drop]
    have h0 : f.name ≤ xs[k].name := List.not_lt.1 fun hc => by
      have := (lt_iff _ _).2 hc
      rw [hhi (by omega)] at this
      cases this
    cases i with
    | zero => exact h0
    | succ i => exact List.le_trans h0 (hg k (k + (i + 1)) (by omega) (by omega) (by omega))
  · obtain ⟨j, hj, rfl⟩ := List.mem_iff_getElem.1 hx
    rw [List.length_take] at hj
    rw [List.getElem_take]
    rcases List.mem_cons.1 hy with rfl | hy
    · exact Std.le_of_lt ((lt_iff _ _).1 (hlo j (by omega)))
    · obtain ⟨i, hi, rfl⟩ := List.mem_iff_getElem.1 hy
      rw [List.length_drop] at hi
      rw [List.getElem_drop]
      exact hg j (k + i) (by omega) (by omega) (by omega)
  · refine List.perm_middle.trans (List.Perm.cons _ ?_)
    rw [List.take_append_drop]
theorem rows_flat_len (xs : List File) : (rows xs).flatten.length = xs.length * 33 := by
  rw [flatten_length (z := 33) (fun x hx => by obtain ⟨f, _, rfl⟩ := List.mem_map.1 hx; simp [File.row]), rows_length]
theorem rows_flat_take (xs : List File) : ∀ k, (rows xs).flatten.take (k * 33) = (rows (xs.take k)).flatten := by
  induction xs with
  | nil => intro k; simp [rows]
  | cons x xs ih =>
    intro k
    cases k with
    | zero => simp [rows]
    | succ k =>
      have hl : x.row.length = 33 := by simp [File.row]
      show (x.row ++ (rows xs).flatten).take _ = x.row ++ (rows (xs.take k)).flatten
      rw [show (k + 1) * 33 = x.row.length + k * 33 by omega, List.take_length_add_append, ih]
theorem rows_flat_drop (xs : List File) : ∀ k, (rows xs).flatten.drop (k * 33) = (rows (xs.drop k)).flatten := by
  induction xs with
  | nil => intro k; simp [rows]
  | cons x xs ih =>
    intro k
    cases k with
    | zero => simp
    | succ k =>
      have hl : x.row.length = 33 := by simp [File.row]
      show (x.row ++ (rows xs).flatten).drop _ = (rows (xs.drop k)).flatten
      rw [show (k + 1) * 33 = x.row.length + k * 33 by omega, List.drop_length_add_append, ih]
theorem rows_chunk (xs : List File) : chunkA 33 xs.length (rows xs).flatten = rows xs := by
  have := chunk_flat 33 (rows xs) (fun x hx => by obtain ⟨f, _, rfl⟩ := List.mem_map.1 hx; simp [File.row])
  rwa [rows_length] at this
theorem rows_one (xs : List File) : ∀ y ∈ rows xs, ∀ a ∈ y, a.one = true := fun y hy a ha => by
  obtain ⟨f, _, rfl⟩ := List.mem_map.1 hy
  rcases List.mem_cons.1 ha with rfl | ha
  · rfl
  · obtain ⟨k, _, rfl⟩ := List.mem_map.1 ha; rfl
theorem rows_at {xs : List File} {k : Nat} (hk : k < xs.length) : (rows xs).flatten.drop (k * 33) = xs[k].row ++ (rows (xs.drop (k + 1))).flatten := by
  rw [rows_flat_drop, List.drop_eq_getElem_cons hk]; rfl
def fld (n : Nat) : Nat → Nat → AV
  | 0, _ => .sl .full 33 []
  | i + 1, r => .ov n (r + 3) 0 33 (i + 1)

theorem Like.setApp {ids : List Nat} {X Z : List AObj} {p : Nat} {o : AObj} (h : p ∉ ids) : Like ids X (X.set p o ++ Z) := fun i hi ob ho => by
  have hne : p ≠ i := fun e => h (by rw [e]; exact hi)
  rw [List.getElem?_append_left (by rw [List.length_set]; exact get_lt ho), List.getElem?_set, if_neg hne]
  exact ho
theorem set_last2 (Q : List AObj) (D A : AObj) (n : Nat) (hn : n = Q.length + 1) : (Q ++ [D] ++ [A]).set n .dead = Q ++ [D, .dead] := by
  subst hn
  rw [List.set_append_right _ _ (by simp)]
  simp
theorem heapS {H J : List AObj} {b0 b1 b2 b3 D A1 A2 : AObj} {r : Nat} (hr : r < J.length) (Y : List AObj) (hY : Y ++ [] = H ++ (b0 :: b1 :: b2 :: (J ++ [D]))) :
    (((Y ++ []).set (H.length + (r + 3)) .dead ++ [A1]).set (H.length + (J.length + 4)) .dead ++ [A2]).set (H.length + 2) b3 = H ++ (b0 :: b1 :: b3 :: (J.set r .dead ++ [D, .dead, A2])) := by
  rw [hY, set_app]
  show (((H ++ (b0 :: b1 :: b2 :: ((J ++ [D]).set r .dead))) ++ [A1]).set (H.length + (J.length + 4)) .dead ++ [A2]).set (H.length + 2) b3 = _
  rw [List.set_append_left _ _ hr, List.append_assoc H, set_app, List.append_assoc H, set_app]
  show H ++ (b0 :: b1 :: b3 :: ((J.set r .dead ++ [D] ++ [A1]).set (J.length + 1) .dead ++ [A2])) = _
  rw [set_last2 _ _ _ _ (by simp)]
  simp
theorem heapZ {H J : List AObj} {b0 b1 b2 b3 D A1 A2 : AObj} (Y : List AObj) (hY : Y ++ [] = H ++ (b0 :: b1 :: b2 :: (J ++ [D]))) :
    (((Y ++ []) ++ [A1]).set (H.length + (J.length + 4)) .dead ++ [A2]).set (H.length + 2) b3 = H ++ (b0 :: b1 :: b3 :: (J ++ [D, .dead, A2])) := by
  rw [hY, List.append_assoc H, set_app, List.append_assoc H, set_app]
  show H ++ (b0 :: b1 :: b3 :: ((J ++ [D] ++ [A1]).set (J.length + 1) .dead ++ [A2])) = _
  rw [set_last2 _ _ _ _ rfl]
  simp

theorem refMake_A (hsum : SumSpec) (v a b : Int) (fs : List NFile) (H : List AObj) (hl : fs.length ≤ 1000000000) (hb : ∀ f ∈ fs, f.bytes.length ≤ 1000000000) :
    CallsA E 14 [.int .u64 v, .agg [.int .i64 a, .int .i64 b], .sl .no 2 (nrows fs)] H (Is H (.tup [(makeM v a b fs).av .no, .int .i64 (makeE a b fs)])) := by
  have hW := fun H => refWinCheck_A a b H
  have hF := fun H => files_A fs H (by omega)
  have hzero : ∀ k, makeE a b fs = k → k ≠ 0 → AEnd.ret (.tup [zeroMan.av .no, .int .i64 k]) = .ret (.tup [(makeM v a b fs).av .no, .int .i64 (makeE a b fs)]) := fun k h hk => by rw [makeM, h, if_neg hk]
  have hfin : ∀ (k : Int) {t : Slots} {L : List AObj} {xs : List AV}, makeE a b fs = k → k ≠ 0 → xs = [.agg [.int .u64 0, .int .i64 0, .int .i64 0, .sl .full 0 []], .int .i64 k] → resL L E.T t [.cell 6 27, .tmp 7] = some xs → resN H.length t [.cell 6 27, .tmp 7] = [H.length, H.length] → retK E [.cell 6 27, .tmp 7] H (Is H (.tup [(makeM v a b fs).av .no, .int .i64 (makeE a b fs)])) .ret t (H ++ L) := fun k t L xs h hk e1 e2 e3 =>
    retK.sub (.inr rfl) rfl (TrOk.refl H) (L := L) e2 e3 (by rw [e1]; exact Sub.tup (vs := [zeroMan.av .no, .int .i64 k]) ⟨zeroMan_sub, Sub.refl _, trivial⟩) (man_bd _ _ _) ⟨rfl, hzero k h hk⟩
  refine .enter Tryd.func14 rfl rfl rfl 80 Tryd.ntmps14 (Nat.le_of_ble_eq_true rfl) ?_
  by_cases hw : win a b = true
  · have hw' : winCode a b = 0 := by rw [winCode, if_pos hw]
    rw [hw'] at hW
    have hmk : makeE a b fs = byNameE fs := by rw [makeE, if_pos hw]
    by_cases he : byNameE fs = 0
    · rw [he] at hF
      obtain ⟨g1, g2, g3⟩ := byNameE_ok he
      have hmE : makeE a b fs = 0 := by rw [hmk, he]
      repeat' first
        | refine WpA.seq ?_
        | refine WpA.region ?_
        | refine WpOps.op _ rfl rfl rfl rfl rfl ?_
        | refine WpOps.box _ rfl rfl rfl rfl rfl ?_
        | refine WpOps.alloc _ rfl rfl rfl rfl rfl rfl ?_
        | refine WpOps.store rfl rfl rfl rfl rfl rfl rfl rfl rfl rfl ?_
        | refine WpOps.build _ rfl rfl rfl rfl rfl ?_
        | (refine WpOps.call rfl rfl rfl rfl rfl (by exact hW _) ?_; rintro _ _ ⟨rfl, rfl⟩)
        | (refine WpOps.call rfl rfl rfl rfl rfl (by exact hF _) ?_; rintro _ _ ⟨rfl, rfl⟩)
        | refine WpA.block ?_
        | refine WpOps.nil ?_
        | refine WpA.skip ?_
        | refine WpA.condF rfl ?_
      refine WpA.recell (j := 2) (cs' := [.int .u64 v, .int .i64 a, .int .i64 b, .sl .full 33 []]) rfl ⟨Sub.refl _, Sub.refl _, Sub.refl _, Sub.full, trivial⟩ ?_
      refine WpA.loopS (α := Nat × List AObj × Nat × List File) (fun s => [(2, .sl .no 2 (nrows fs)), (6, .ptr H.length 1 0), (9, .ptr H.length 2 0), (10, .int .i64 (s.1 : Nat))])
        (fun s => H ++ (.cells [.int .i64 a, .int .i64 b] :: .cells [.int .u64 0, .int .i64 0, .int .i64 0, .sl .full 0 []] :: .cells [.int .u64 v, .int .i64 a, .int .i64 b, fld H.length s.1 s.2.2.1] :: s.2.1))
        (fun s => s.1 ≤ fs.length ∧ s.2.2.2.length = s.1 ∧ Srt s.2.2.2 ∧ s.2.2.2.Perm ((fs.take s.1).map ofN) ∧ (0 < s.1 → s.2.1[s.2.2.1]? = some (.cells (rows s.2.2.2).flatten)))
        (fun s => fs.length - s.1) (0, [], 0, []) ⟨Nat.zero_le _, rfl, List.Pairwise.nil, List.Perm.refl _, fun h => absurd h (by simp)⟩ ⟨rfl, rfl, rfl, rfl, trivial⟩ rfl (fun s hs => ?_)
      obtain ⟨i, J, r, xs⟩ := s
      obtain ⟨hi, hx, hsr, hpm, hJ⟩ := hs
      dsimp only at hi hx hsr hpm hJ ⊢
      have hnl := nrows_len fs
      by_cases hin : i < fs.length
      · have hge : (nrows fs)[((i : Nat) : Int).toNat]? = some fs[i].row := nrows_get hin
        have hlt : decide (((i : Nat) : Int) < (((nrows fs).length : Nat) : Int)) = true := decide_eq_true (by rw [hnl]; omega)
        have hS := fun X => hsum fs[i].bytes X (hb _ (List.getElem_mem hin))
        have htk : (fs.take (i + 1)).map ofN = (fs.take i).map ofN ++ [ofN fs[i]] := by rw [List.take_succ_eq_append_getElem hin, List.map_append]; rfl
        have hgr : (ofN fs[i]).row = .str fs[i].name :: hashA (sha fs[i].bytes) := rfl
        have hgn : (ofN fs[i]).name = fs[i].name := rfl
        obtain ⟨g, hg⟩ : ∃ g, ofN fs[i] = g := ⟨_, rfl⟩
        rw [hg] at hgr hgn htk
        rw [NFile.row] at hge
        obtain ⟨nm, hnm⟩ : ∃ nm, fs[i].name = nm := ⟨_, rfl⟩
        obtain ⟨hs, hhs⟩ : ∃ hs, sha fs[i].bytes = hs := ⟨_, rfl⟩
        obtain ⟨bs, hbs⟩ : ∃ bs, fs[i].bytes.map byteRow = bs := ⟨_, rfl⟩
        rw [hnm, hhs] at hgr
        rw [hnm] at hgn
        rw [hnm, hbs] at hge
        rw [hhs, hbs] at hS
        obtain ⟨X, hX⟩ : ∃ X, X ++ [] = H ++ (.cells [.int .i64 a, .int .i64 b] :: .cells [.int .u64 0, .int .i64 0, .int .i64 0, .sl .full 0 []] :: .cells [.int .u64 v, .int .i64 a, .int .i64 b, fld H.length i r] :: J) := ⟨_, List.append_nil _⟩
        have hXe := hX
        rw [List.append_nil] at hXe
        have hXl : X.length = H.length + (J.length + 3) := by rw [hXe]; simp
        have hX2 : X[H.length + 2]? = some (.cells [.int .u64 v, .int .i64 a, .int .i64 b, fld H.length i r]) := by rw [hXe]; exact app_get rfl rfl
        have hXr : 0 < i → X[H.length + (r + 3)]? = some (.cells (rows xs).flatten) := fun h => by rw [hXe]; exact app_get rfl (hJ h)
        have hi200 : i < 200 := by omega
        rw [← hX]
        let T0 : Slots := [(2, .sl .no 2 (nrows fs)), (6, .ptr H.length 1 0), (9, .ptr H.length 2 0), (10, .int .i64 (i : Nat))]
        refine WpA.cutS T0 (X ++ []) (by
          repeat' first
            | refine WpA.condT (congrArg AV.bool hlt) ?_
            | refine WpA.seq ?_
            | refine WpA.region ?_
            | refine WpOps.op _ rfl rfl rfl rfl rfl ?_
            | refine WpOps.nil ?_
            | refine WpA.skip ?_
          exact ⟨rfl, ⟨rfl, rfl, rfl, rfl, trivial⟩, rfl⟩) ?_
        refine WpA.seq ?_
        refine WpA.block ?_
        refine WpA.cutS [(2, .sl .no 2 (nrows fs)), (6, .ptr H.length 1 0), (9, .ptr H.length 2 0), (10, .int .i64 (i : Nat)), (11, .ptr X.length 0 0)] (X ++ [.cells (.str nm :: hashA hs)]) (by
          repeat' first
            | refine WpA.drawI (id := 10) [H.length + 2] [0, 0, 0, 0, 0, 0, 0, 0, 0, 0, 0, 0, 3, 2] (by kernel_rfl) (by kernel_rfl) ?_
            | (refine LexH.elem _ rfl rfl rfl rfl rfl rfl rfl rfl rfl rfl (Int.natCast_nonneg i) hge ?_)
            | (refine LexH.alloc3 _ rfl rfl rfl rfl rfl rfl rfl ?_)
            | refine LexH.op0 _ rfl rfl rfl rfl rfl (fun _ => rfl) ?_
            | refine LexH.build _ rfl rfl rfl rfl rfl rfl ?_
            | refine LexH.store rfl rfl rfl rfl rfl rfl rfl rfl rfl rfl rfl ?_
            | refine LexH.call0 rfl rfl rfl rfl rfl rfl (fun _ => by exact hS _) ?_
            | refine LexH.nil ?_
          exact ⟨rfl, ⟨rfl, rfl, rfl, rfl, rfl, trivial⟩, rfl⟩) ?_
        refine WpA.freezeP (d := 11) (j := 0) rfl rfl ?_
        refine WpA.cutS [(2, .sl .no 2 (nrows fs)), (6, .ptr H.length 1 0), (9, .ptr H.length 2 0), (10, .int .i64 (i : Nat)), (11, .rp (.str nm :: hashA hs)), (12, .int .i64 ((0 : Nat) : Int))] (X ++ [.dead]) (by
          repeat' first
            | refine WpA.region ?_
            | refine WpOps.op _ rfl rfl rfl rfl rfl ?_
            | refine WpOps.nil ?_
          exact ⟨rfl, ⟨rfl, rfl, rfl, rfl, rfl, rfl, trivial⟩, rfl⟩) ?_
        obtain ⟨Y, hY⟩ : ∃ Y, Y ++ [] = X ++ [.dead] := ⟨_, List.append_nil _⟩
        have hYe := hY
        rw [List.append_nil] at hYe
        have hYl : (Y ++ []).length = H.length + (J.length + 4) := by rw [hY, List.length_append, hXl]; simp; omega
        have hY2 : (Y ++ [])[H.length + 2]? = some (.cells [.int .u64 v, .int .i64 a, .int .i64 b, fld H.length i r]) := by rw [hY, List.getElem?_append_left (get_lt hX2)]; exact hX2
        have hYr : 0 < i → (Y ++ [])[H.length + (r + 3)]? = some (.cells (rows xs).flatten) := fun h => by rw [hY, List.getElem?_append_left (get_lt (hXr h))]; exact hXr h
        have hYH : Y ++ [] = H ++ (.cells [.int .i64 a, .int .i64 b] :: .cells [.int .u64 0, .int .i64 0, .int .i64 0, .sl .full 0 []] :: .cells [.int .u64 v, .int .i64 a, .int .i64 b, fld H.length i r] :: (J ++ [.dead])) := by rw [hY, hXe]; simp
        rw [← hY]
        refine WpA.seq ?_
        refine WpA.block ?_
        refine WpA.loopS (α := Nat) (fun k => [(2, .sl .no 2 (nrows fs)), (6, .ptr H.length 1 0), (9, .ptr H.length 2 0), (10, .int .i64 (i : Nat)), (11, .rp (.str nm :: hashA hs)), (12, .int .i64 (k : Nat))]) (fun _ => Y ++ [])
          (fun k => k ≤ xs.length ∧ ∀ j (hj : j < k) (hjx : j < xs.length), lt xs[j].name nm = true) (fun k => xs.length - k) 0 ⟨Nat.zero_le _, fun j hj => absurd hj (by omega)⟩ ⟨rfl, rfl, rfl, rfl, rfl, rfl, trivial⟩ rfl (fun k hk => ?_)
        obtain ⟨hk1, hk2⟩ := hk
        obtain ⟨q, hq⟩ : ∃ q : Bool, q = true ↔ ∃ h : k < xs.length, lt xs[k].name nm = true := by
          classical
          exact ⟨decide (∃ h : k < xs.length, lt xs[k].name nm = true), decide_eq_true_iff⟩
        refine WpA.seq ?_
        refine WpA.cutS [(2, .sl .no 2 (nrows fs)), (6, .ptr H.length 1 0), (9, .ptr H.length 2 0), (10, .int .i64 (i : Nat)), (11, .rp (.str nm :: hashA hs)), (12, .int .i64 (k : Nat)), (60, .bool q)] (Y ++ []) ?_ ?_
        · have hY2' := hY2
          by_cases hkx : k < xs.length
          · have hYr' := hYr (by omega)
            have hql : lt xs[k].name nm = q := by
              cases e : lt xs[k].name nm with
              | true => exact (hq.2 ⟨hkx, e⟩).symm
              | false =>
                cases hqq : q with
                | false => rfl
                | true =>
                  obtain ⟨_, h2⟩ := hq.1 hqq
                  rw [e] at h2
                  cases h2
            have hdr : (rows xs).flatten.drop (k * 33) = xs[k].row ++ (rows (xs.drop (k + 1))).flatten := rows_at hkx
            have hfl := rows_flat_len xs
            obtain ⟨n, rfl⟩ : ∃ n, i = n + 1 := ⟨i - 1, by omega⟩
            have hkl : ((k : Nat) : Int) < ((n + 1 : Nat) : Int) := by omega
            have hd1 : decide (((k : Nat) : Int) < ((n + 1 : Nat) : Int)) = true := decide_eq_true hkl
            have hgf : ¬ (decide (((k : Nat) : Int) < ((n + 1 : Nat) : Int)) = false) := by rw [hd1]; decide
            repeat' first
              | refine WpA.draw (by kernel_rfl) ?_
              | exact absurd (by assumption) hgf
              | (refine LexA.p1 rfl rfl rfl (.loadAt rfl rfl hY2 rfl rfl rfl) ?_)
              | (refine LexA.p1 rfl rfl rfl (.lenV rfl rfl rfl) ?_)
              | (refine LexA.p1 rfl rfl rfl (.elemV rfl rfl rfl rfl rfl (Int.natCast_nonneg k) hkl) ?_)
              | (refine LexA.p1 rfl rfl rfl (.loadAt (av := .str xs[k].name) rfl rfl hYr' rfl ?_ ?_) ?_)
              | refine LexA.op _ rfl rfl rfl rfl rfl ?_
              | refine LexA.gsplit _ rfl rfl rfl (fun h => ?_) (fun h => ?_)
              | refine LexA.nil ?_
            · exact Nat.ble_eq_true_of_le (by show 0 + k * 33 + 0 + 1 ≤ _; rw [hfl]; omega)
            · show varA _ (List.drop (0 + k * 33 + 0) _) = _
              rw [Nat.add_zero, Nat.zero_add, hdr]; rfl
            · exact ⟨rfl, ⟨rfl, rfl, rfl, rfl, rfl, rfl, congrArg AV.bool hql, trivial⟩, rfl⟩
          · have hke : ((k : Nat) : Int) = ((i : Nat) : Int) := by omega
            have hqf : q = false := by
              cases hqq : q with
              | false => rfl
              | true => exact absurd (hq.1 hqq).1 hkx
            subst hqf
            have hd1 : decide (((k : Nat) : Int) < ((i : Nat) : Int)) = false := decide_eq_false (by omega)
            have hgt : ¬ (decide (((k : Nat) : Int) < ((i : Nat) : Int)) = true) := by rw [hd1]; decide
            cases i with
            | zero =>
              have hk0 : k = 0 := by omega
              subst hk0
              repeat' first
                | refine WpA.draw (by kernel_rfl) ?_
                | (refine LexA.p1 rfl rfl rfl (.loadAt rfl rfl hY2 rfl rfl rfl) ?_)
                | refine LexA.op _ rfl rfl rfl rfl rfl ?_
                | refine LexA.skip rfl rfl rfl ?_
                | refine LexA.nil ?_
              all_goals exact ⟨rfl, ⟨rfl, rfl, rfl, rfl, rfl, rfl, rfl, trivial⟩, rfl⟩
            | succ n =>
              repeat' first
                | refine WpA.draw (by kernel_rfl) ?_
                | exact absurd (by assumption) hgt
                | (refine LexA.p1 rfl rfl rfl (.loadAt rfl rfl hY2 rfl rfl rfl) ?_)
                | (refine LexA.p1 rfl rfl rfl (.lenV rfl rfl rfl) ?_)
                | refine LexA.op _ rfl rfl rfl rfl rfl ?_
                | refine LexA.skip rfl rfl rfl ?_
                | refine LexA.gsplit _ rfl rfl rfl (fun h => ?_) (fun h => ?_)
                | refine LexA.nil ?_
              exact ⟨rfl, ⟨rfl, rfl, rfl, rfl, rfl, rfl, rfl, trivial⟩, rfl⟩
        cases q with
        | true =>
          obtain ⟨hkx, hlt2⟩ := hq.1 rfl
          repeat' first
            | refine WpA.region ?_
            | refine WpOps.op _ rfl rfl rfl rfl rfl ?_
            | refine WpA.block ?_
            | refine WpOps.nil ?_
            | refine WpA.skip ?_
            | refine WpA.condT rfl ?_
          refine ⟨k + 1, ⟨by omega, fun j hj hjx => ?_⟩, by omega, ⟨rfl, rfl, rfl, rfl, rfl, congrArg (AV.int .i64) (wrap64 (by omega) (by omega)), trivial⟩, rfl⟩
          rcases Nat.lt_or_ge j k with h | h
          · exact hk2 j h hjx
          · have : j = k := by omega
            subst this; exact hlt2
        | false =>
          have hhi : ∀ h : k < xs.length, lt xs[k].name nm = false := fun h => by
            cases e : lt xs[k].name nm with
            | false => rfl
            | true => exact absurd (hq.2 ⟨h, e⟩) (by decide)
          repeat' first
            | refine WpA.exit ?_
            | refine WpA.condF rfl ?_
          refine WpA.cutS [(2, .sl .no 2 (nrows fs)), (6, .ptr H.length 1 0), (9, .ptr H.length 2 0), (10, .int .i64 (i : Nat)), (11, .rp (.str nm :: hashA hs)), (12, .int .i64 (k : Nat)), (13, .sl .no 33 (rows (xs.drop k)))] (Y ++ []) ?_ ?_
          · by_cases hkx : k < xs.length
            · have hYr' := hYr (by omega)
              have hfl := rows_flat_len xs
              obtain ⟨n, rfl⟩ : ∃ n, i = n + 1 := ⟨i - 1, by omega⟩
              have hch : chunkA 33 (n + 1 - k) ((rows xs).flatten.drop (0 + k * 33)) = rows (xs.drop k) := by
                have hl2 : n + 1 - k = (xs.drop k).length := by rw [List.length_drop]; omega
                rw [Nat.zero_add, rows_flat_drop, hl2, rows_chunk]
              repeat' first
                | (refine WpOps.buildSlice [] rfl rfl rfl rfl rfl rfl rfl rfl rfl rfl rfl ?_)
                | (refine WpOps.p1 rfl rfl rfl (.loadAt rfl rfl hY2 rfl rfl rfl) ?_)
                | (refine WpOps.p1 rfl rfl rfl (.sliceOv k (n + 1) rfl rfl rfl rfl ⟨_, _, rfl, Int.natCast_nonneg k, rfl⟩ rfl (by omega) (Nat.le_refl _) (by omega)) ?_)
                | (refine WpOps.p1 rfl rfl rfl (.appEO rfl rfl rfl rfl (fun k h => by cases h) rfl rfl rfl hYr' (by show 0 + k * 33 + (n + 1 - k) * 33 ≤ _; rw [hfl]; omega) (by show (n + 1 - k) * 48 ≤ _; omega)) ?_)
                | refine WpA.region ?_
                | refine WpOps.op _ rfl rfl rfl rfl rfl ?_
                | refine WpOps.nil ?_
              exact ⟨rfl, ⟨rfl, rfl, rfl, rfl, rfl, rfl, congrArg (AV.sl .no 33) hch, trivial⟩, rfl⟩
            · have hdr : xs.drop k = [] := List.drop_eq_nil_of_le (by omega)
              rw [hdr]
              cases i with
              | zero =>
                have hk0 : k = 0 := by omega
                subst hk0
                repeat' first
                  | (refine WpOps.buildSlice [] rfl rfl rfl rfl rfl rfl rfl rfl rfl rfl rfl ?_)
                  | (refine WpOps.p1 rfl rfl rfl (.loadAt rfl rfl hY2 rfl rfl rfl) ?_)
                  | (refine WpOps.p1 rfl rfl rfl (.slice 0 0 rfl rfl rfl rfl ⟨_, _, rfl, Int.le_refl _, rfl⟩ rfl (Nat.le_refl _) (Nat.le_refl _)) ?_)
                  | (refine WpOps.p1 rfl rfl rfl (.appE rfl rfl rfl rfl (fun k h => by cases h) rfl rfl rfl (by decide)) ?_)
                  | refine WpA.region ?_
                  | refine WpOps.op _ rfl rfl rfl rfl rfl ?_
                  | refine WpOps.nil ?_
                exact ⟨rfl, ⟨rfl, rfl, rfl, rfl, rfl, rfl, rfl, trivial⟩, rfl⟩
              | succ n =>
                have hke : ((k : Nat) : Int) = ((n + 1 : Nat) : Int) := by omega
                repeat' first
                  | (refine WpOps.buildSlice [] rfl rfl rfl rfl rfl rfl rfl rfl rfl rfl rfl ?_)
                  | (refine WpOps.p1 rfl rfl rfl (.loadAt rfl rfl hY2 rfl rfl rfl) ?_)
                  | (refine WpOps.p1 rfl rfl rfl (.sliceOvE rfl rfl rfl rfl rfl hke) ?_)
                  | (refine WpOps.p1 rfl rfl rfl (.appE rfl rfl rfl rfl (fun k h => by cases h) rfl rfl rfl (by decide)) ?_)
                  | refine WpA.region ?_
                  | refine WpOps.op _ rfl rfl rfl rfl rfl ?_
                  | refine WpOps.nil ?_
                exact ⟨rfl, ⟨rfl, rfl, rfl, rfl, rfl, rfl, rfl, trivial⟩, rfl⟩
          · obtain ⟨rs, hrs⟩ : ∃ rs, rs = rows (xs.drop k) := ⟨_, rfl⟩
            have hrl : rs.length = i - k := by rw [hrs, rows_length, List.length_drop, hx]
            have hro : ∀ y ∈ rs, ∀ a ∈ y, a.one = true := by rw [hrs]; exact rows_one _
            have hgo : ∀ y ∈ [.str nm :: hashA hs], ∀ a ∈ y, a.one = true := by rw [← hgr]; exact rows_one [g]
            have hps := put_sorted (f := g) (k := k) (xs := xs) (by omega) hsr (fun j hj => by rw [hgn]; exact hk2 j hj (by omega)) (fun h => by rw [hgn]; exact hhi h)
            have hfin2 : ∀ (J' : List AObj) (r' : Nat) (cs : List AV), J'[r']? = some (.cells cs) → cs = (rows (xs.take k ++ g :: xs.drop k)).flatten → (i + 1) ≤ fs.length ∧ (xs.take k ++ g :: xs.drop k).length = i + 1 ∧ Srt (xs.take k ++ g :: xs.drop k) ∧ (xs.take k ++ g :: xs.drop k).Perm ((fs.take (i + 1)).map ofN) ∧ (0 < i + 1 → J'[r']? = some (.cells (rows (xs.take k ++ g :: xs.drop k)).flatten)) := fun J' r' cs h1 h2 => by
              refine ⟨hin, ?_, hps.1, ?_, fun _ => by rw [← h2]; exact h1⟩
              · rw [hps.2.length_eq, List.length_cons, hx]
              · rw [htk]
                exact hps.2.trans ((List.Perm.cons g hpm).trans (List.perm_append_singleton g _).symm)
            rw [← hrs]
            cases i with
            | zero =>
              have hk0 : k = 0 := by omega
              subst hk0
              have hx0 : xs = [] := List.length_eq_zero_iff.1 hx
              have hr0 : rs = [] := by rw [hrs, hx0]; rfl
              have hne2 : H.length + (J.length + 4) ∉ [H.length + 2] := by simp
              have hl1 : ∀ A1 : AObj, ((Y ++ []) ++ [A1])[H.length + (J.length + 4)]? = some A1 := fun A1 => by
                rw [← hYl, List.getElem?_append_right (Nat.le_refl _)]; simp
              have hl2 : ∀ A1 A2 : AObj, (((Y ++ []) ++ [A1]).set (H.length + (J.length + 4)) .dead ++ [A2])[H.length + 2]? = some (.cells [.int .u64 v, .int .i64 a, .int .i64 b, fld H.length 0 r]) := fun A1 A2 =>
                Like.trans (ids := [H.length + 2]) Like.ext (Like.setApp hne2) _ (by simp) _ hY2
              have hcl : [AV.str nm :: hashA hs].flatten.length = 1 * 33 := by
                rw [← hgr]
                simp [File.row]
              have hA : [AV.str nm :: hashA hs].flatten.take (1 * 33) ++ rs.flatten = (rows (xs.take 0 ++ g :: xs.drop 0)).flatten := by
                rw [List.take_of_length_le (Nat.le_of_eq hcl), ← hgr, hr0, hx0]
                simp [rows]
              have hkr : 1 + rs.length = 0 + 1 := by omega
              repeat' first
                | refine WpA.drawI (id := 15) [H.length + 2] [0, 4, 0, 0, 0, 0, 3, 0, 3, 0, 2] (by kernel_rfl) (by kernel_rfl) ?_
                | (refine LexH.p4 rfl rfl rfl rfl (fun H0 h0 => .loadAt rfl rfl (h0 _ (by simp) _ hY2) rfl rfl rfl) ?_)
                | (refine LexH.p0 rfl rfl rfl rfl (fun H0 => .sliceFu 0 rfl rfl rfl rfl rfl ⟨_, _, rfl, Int.natCast_nonneg 0, rfl⟩ (Nat.le_refl _)) ?_)
                | (refine LexH.p3 rfl rfl rfl rfl (by exact Like.ext) (.appOE (m' := H.length) (r' := J.length + 4) (ys := [.str nm :: hashA hs]) rfl rfl rfl rfl (fun k h => by cases h) rfl rfl rfl rfl (by simp) (by show 1 * 48 ≤ _; omega) hYl.symm) ?_)
                | (refine LexH.p3 rfl rfl rfl rfl (by exact Like.setApp hne2) (.appOV (m' := H.length) (r' := J.length + 5) (ys := rs) rfl rfl rfl rfl (fun k h => by cases h) rfl rfl rfl (hl1 _) (by show 1 * 33 ≤ _; exact Nat.le_of_eq hcl.symm) rfl hro (by show (1 + rs.length) * 48 ≤ _; omega) (by rw [List.length_append, hYl]; rfl)) ?_)
                | (refine LexH.u2 rfl rfl rfl (.storeAt rfl rfl (hl2 _ _) rfl rfl rfl rfl rfl) ?_)
                | refine WpA.region ?_
                | refine LexH.op0 _ rfl rfl rfl rfl rfl (fun _ => rfl) ?_
                | refine LexH.buildSlice _ rfl rfl rfl rfl rfl rfl rfl rfl rfl rfl rfl rfl ?_
                | refine LexH.nil ?_
              rw [heapZ Y hYH]
              repeat' first
                | refine WpOps.op _ rfl rfl rfl rfl rfl ?_
                | refine WpOps.nil ?_
              refine ⟨(0 + 1, J ++ [.dead, .dead, .cells ([AV.str nm :: hashA hs].flatten.take (1 * 33) ++ rs.flatten)], J.length + 2, xs.take 0 ++ g :: xs.drop 0), hfin2 _ _ _ (by simp) hA, by show fs.length - (0 + 1) < fs.length - 0; omega, ⟨rfl, rfl, rfl, congrArg (AV.int .i64) (wrap64 (by omega) (by omega)), trivial⟩, ?_⟩
              show H ++ (_ :: _ :: .cells [.int .u64 v, .int .i64 a, .int .i64 b, .ov H.length (J.length + 5) 0 33 (1 + rs.length)] :: _) = _
              rw [hkr]
              rfl
            | succ n =>
              have hYr' := hYr (by omega)
              have hrJ : r < J.length := get_lt (hJ (by omega))
              have hfl := rows_flat_len xs
              obtain ⟨cs, hcs⟩ : ∃ cs, (rows xs).flatten = cs := ⟨_, rfl⟩
              rw [hcs] at hYr' hfl
              have hne : H.length + (r + 3) ∉ [H.length + 2] := by simp; 
              have hne2 : H.length + (J.length + 4) ∉ [H.length + 2] := by simp; 
              have hl1 : ∀ A1 : AObj, ((Y ++ []).set (H.length + (r + 3)) .dead ++ [A1])[H.length + (J.length + 4)]? = some A1 := fun A1 => by
                rw [← hYl, List.getElem?_append_right (by simp)]; simp
              have hl2 : ∀ A1 A2 : AObj, (((Y ++ []).set (H.length + (r + 3)) .dead ++ [A1]).set (H.length + (J.length + 4)) .dead ++ [A2])[H.length + 2]? = some (.cells [.int .u64 v, .int .i64 a, .int .i64 b, fld H.length (n + 1) r]) := fun A1 A2 =>
                Like.trans (Like.setApp hne) (Like.setApp hne2) _ (by simp) _ hY2
              have hcl : (cs.take (k * 33) ++ [AV.str nm :: hashA hs].flatten).length = (k + 1) * 33 := by
                have h1 : (cs.take (k * 33)).length = k * 33 := by rw [List.length_take]; omega
                rw [List.length_append, h1, ← hgr]
                simp [File.row]; omega
              have hA : (cs.take (k * 33) ++ [AV.str nm :: hashA hs].flatten).take ((k + 1) * 33) ++ rs.flatten = (rows (xs.take k ++ g :: xs.drop k)).flatten := by
                rw [List.take_of_length_le (Nat.le_of_eq hcl), ← hgr, hrs, ← hcs, rows_flat_take]
                simp [rows]
              have hkr : k + 1 + rs.length = n + 1 + 1 := by omega
              repeat' first
                | refine WpA.drawI (id := 15) [H.length + 2] [0, 4, 0, 0, 0, 0, 3, 0, 3, 0, 2] (by kernel_rfl) (by kernel_rfl) ?_
                | (refine LexH.p4 rfl rfl rfl rfl (fun H0 h0 => .loadAt rfl rfl (h0 _ (by simp) _ hY2) rfl rfl rfl) ?_)
                | (refine LexH.p0 rfl rfl rfl rfl (fun H0 => .sliceOv 0 k rfl rfl rfl rfl rfl ⟨_, _, rfl, Int.natCast_nonneg k, rfl⟩ (Nat.zero_le _) (by omega) (by omega)) ?_)
                | (refine LexH.p3 rfl rfl rfl rfl (by exact Like.setApp hne) (.appOV (m' := H.length) (r' := J.length + 4) (ys := [.str nm :: hashA hs]) rfl rfl rfl rfl (fun k h => by cases h) rfl rfl rfl hYr' (by show k * 33 ≤ _; omega) rfl hgo (by show (k + 1) * 48 ≤ _; omega) hYl.symm) ?_)
                | (refine LexH.p3 rfl rfl rfl rfl (by exact Like.setApp hne2) (.appOV (m' := H.length) (r' := J.length + 5) (ys := rs) rfl rfl rfl rfl (fun k h => by cases h) rfl rfl rfl (hl1 _) (by show (k + 1) * 33 ≤ _; exact Nat.le_of_eq hcl.symm) rfl hro (by show (k + 1 + rs.length) * 48 ≤ _; omega) (by rw [List.length_append, List.length_set, hYl]; rfl)) ?_)
                | (refine LexH.u2 rfl rfl rfl (.storeAt rfl rfl (hl2 _ _) rfl rfl rfl rfl rfl) ?_)
                | refine WpA.region ?_
                | refine LexH.op0 _ rfl rfl rfl rfl rfl (fun _ => rfl) ?_
                | refine LexH.buildSlice _ rfl rfl rfl rfl rfl rfl rfl rfl rfl rfl rfl rfl ?_
                | refine LexH.nil ?_
              rw [heapS hrJ Y hYH]
              repeat' first
                | refine WpOps.op _ rfl rfl rfl rfl rfl ?_
                | refine WpOps.nil ?_
              refine ⟨(n + 1 + 1, J.set r .dead ++ [.dead, .dead, .cells ((cs.take (k * 33) ++ [AV.str nm :: hashA hs].flatten).take ((k + 1) * 33) ++ rs.flatten)], J.length + 2, xs.take k ++ g :: xs.drop k), hfin2 _ _ _ (by simp) hA, by show fs.length - (n + 1 + 1) < fs.length - (n + 1); omega, ⟨rfl, rfl, rfl, congrArg (AV.int .i64) (wrap64 (by omega) (by omega)), trivial⟩, ?_⟩
              show H ++ (_ :: _ :: .cells [.int .u64 v, .int .i64 a, .int .i64 b, .ov H.length (J.length + 5) 0 33 (k + 1 + rs.length)] :: _) = _
              rw [hkr]
              rfl
      · have hin' : i = fs.length := by omega
        rw [hin', List.take_length] at hpm
        have hxs := made_unique g3 hpm hsr
        have hmM : makeM v a b fs = ⟨v, a, b, xs⟩ := by rw [makeM, if_pos hmE, hxs]
        have hlt : decide (((i : Nat) : Int) < (((nrows fs).length : Nat) : Int)) = false := decide_eq_false (by rw [hnl]; omega)
        rw [hmE, hmM]
        cases i with
        | zero =>
          have hx0 : xs = [] := List.length_eq_zero_iff.1 hx
          subst hx0
          refine WpA.recell (j := 2) (cs' := [.int .u64 v, .int .i64 a, .int .i64 b, .sl .no 33 (rows [])]) rfl ⟨Sub.refl _, Sub.refl _, Sub.refl _, Sub.untag, trivial⟩ ?_
          repeat' first
            | refine WpA.condF (congrArg AV.bool hlt) ?_
            | refine WpA.seq ?_
            | refine WpA.region ?_
            | refine WpOps.op _ rfl rfl rfl rfl rfl ?_
            | refine WpOps.store rfl rfl rfl rfl rfl rfl rfl rfl rfl rfl ?_
            | refine WpA.exit ?_
            | refine WpOps.nil ?_
            | refine WpA.ret ?_
          exact retK.sub (.inr rfl) rfl (TrOk.refl H) (L := _) rfl rfl (Sub.refl (.tup [Man.av ⟨v, a, b, []⟩ .no, .int .i64 0])) (man_bd _ _ _) ⟨rfl, rfl⟩
        | succ n =>
          have hJ' := hJ (by omega)
          have hch : chunkA 33 (n + 1) ((rows xs).flatten.drop 0) = rows xs := by rw [List.drop_zero, ← hx, rows_chunk]
          refine WpA.recell (j := 2) (cs' := [.int .u64 v, .int .i64 a, .int .i64 b, .os H.length (r + 3) 0 33 (n + 1)]) rfl ⟨Sub.refl _, Sub.refl _, Sub.refl _, Sub.ov, trivial⟩ ?_
          refine WpA.freezeC (i := 2) (q := 3) (j := r + 3) (cs := (rows xs).flatten) rfl rfl (by exact hJ') rfl (by rw [rows_flat_len, hx]; omega) ?_
          rw [hch]
          show WpA E none 80 _ _ _ (H ++ (.cells [.int .i64 a, .int .i64 b] :: .cells [.int .u64 0, .int .i64 0, .int .i64 0, .sl .full 0 []] :: .cells [.int .u64 v, .int .i64 a, .int .i64 b, .sl .no 33 (rows xs)] :: J.set r .dead))
          repeat' first
            | refine WpA.condF (congrArg AV.bool hlt) ?_
            | refine WpA.seq ?_
            | refine WpA.region ?_
            | refine WpOps.op _ rfl rfl rfl rfl rfl ?_
            | refine WpOps.store rfl rfl rfl rfl rfl rfl rfl rfl rfl rfl ?_
            | refine WpA.exit ?_
            | refine WpOps.nil ?_
            | refine WpA.ret ?_
          exact retK.sub (.inr rfl) rfl (TrOk.refl H) (L := _) rfl rfl (Sub.refl (.tup [Man.av ⟨v, a, b, xs⟩ .no, .int .i64 0])) (man_bd _ _ _) ⟨rfl, rfl⟩
    · have hF0 : ∀ H, CallsA E 34 [.sl .no 2 (nrows fs)] H (Is H (.int .i64 (byNameE fs))) := hF
      repeat' first
        | refine WpA.seq ?_
        | refine WpA.region ?_
        | refine WpOps.op _ rfl rfl rfl rfl rfl ?_
        | refine WpOps.box _ rfl rfl rfl rfl rfl ?_
        | refine WpOps.alloc _ rfl rfl rfl rfl rfl rfl ?_
        | refine WpOps.store rfl rfl rfl rfl rfl rfl rfl rfl rfl rfl ?_
        | refine WpOps.build _ rfl rfl rfl rfl rfl ?_
        | (refine WpOps.call rfl rfl rfl rfl rfl (by exact hW _) ?_; rintro _ _ ⟨rfl, rfl⟩)
        | (refine WpOps.call rfl rfl rfl rfl rfl (by exact hF _) ?_; rintro _ _ ⟨rfl, rfl⟩)
        | refine WpA.block ?_
        | refine WpOps.nil ?_
        | refine WpA.ret ?_
        | refine WpA.skip ?_
        | refine WpA.condF rfl ?_
        | refine WpA.cond _ rfl (fun h => ?_) (fun h => ?_)
      · exact hfin (byNameE fs) hmk he rfl rfl rfl
      all_goals (exact absurd (by simpa using h) he)
  · have hw' : winCode a b = 8 := by rw [winCode, if_neg hw]
    rw [hw'] at hW
    repeat' first
      | refine WpA.seq ?_
      | refine WpA.region ?_
      | refine WpOps.op _ rfl rfl rfl rfl rfl ?_
      | refine WpOps.box _ rfl rfl rfl rfl rfl ?_
      | refine WpOps.alloc _ rfl rfl rfl rfl rfl rfl ?_
      | refine WpOps.store rfl rfl rfl rfl rfl rfl rfl rfl rfl rfl ?_
      | refine WpOps.build _ rfl rfl rfl rfl rfl ?_
      | (refine WpOps.call rfl rfl rfl rfl rfl (by exact hW _) ?_; rintro _ _ ⟨rfl, rfl⟩)
      | refine WpOps.nil ?_
      | refine WpA.ret ?_
      | refine WpA.condT rfl ?_
    · exact hfin 8 (by rw [makeE, if_neg hw]) (by decide) rfl rfl rfl
    all_goals (have h' : (8 : Int) = 0 := by simpa using h; exact absurd h' (by decide))
end Go.Gp.Tryd

/- ManifestMatches: the walk, with the reference's Make. -/
namespace Go.Gp.Tryd
open Go.Proofs
theorem makeSpec : MakeSpec := fun v a b fs H hl hb => refMake_A sumSpec v a b fs H hl hb
end Go.Gp.Tryd
