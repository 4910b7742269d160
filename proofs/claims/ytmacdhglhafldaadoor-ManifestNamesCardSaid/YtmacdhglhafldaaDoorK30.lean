/- Part of a proof: GdR8, GdP2, GdR9, GdR10, GdR11, GdP3, GdP4, GdW10, GdX1, GdP5 -/
import Derived.Test.YtmacdhglhafldaaDoorK14
import Derived.Test.YtmacdhglhafldaaDoorK24
import Derived.Test.YtmacdhglhafldaaDoorK25
import Derived.Test.YtmacdhglhafldaaDoorK29

/- The reference's octets: Decode; that both agree. -/
namespace Go.Gp.Tryd
open Go.Proofs
set_option linter.unusedVariables false
set_option linter.unusedSimpArgs false
set_option maxHeartbeats 4000000
set_option maxRecDepth 100000

def refDecP (b : List UInt8) : Oct × Nat := if 65536 < b.length then (zeroOct, 4) else match tk 12 b with
  | some (o, []) => if refChk o = 0 then (o, 0) else (zeroOct, 12)
  | _ => (zeroOct, 12)

theorem tk_size {k : Nat} {b r : List UInt8} {o : Oct} (h : tk k b = some (o, r)) : o.size + r.length = b.length := by
  unfold tk at h
  split at h
  · rename_i o' r' hp
    split at h
    · injection h with h
      injection h with h1 h2
      subst h1; subst h2
      exact parse_size hp
    · cases h
  · cases h

theorem pre_len : ∀ (o : Oct) (d : Nat), (o.pre d).length = o.cnt
  | .mk t bs is, d => by
    have : ∀ (l : List Oct) (d : Nat), (∀ x ∈ l, SizeOf.sizeOf x < SizeOf.sizeOf (Oct.mk t bs is)) → (Oct.preL l d).length = (l.map Oct.cnt).sum := by
      intro l
      induction l with
      | nil => intro d _; rw [preL_nil]; rfl
      | cons a l ih =>
        intro d h
        have h2 := h a List.mem_cons_self
        have h3 := pre_len a d
        rw [preL_cons, List.length_append, h3, ih d fun x hx => h x (List.mem_cons_of_mem _ hx), List.map_cons, List.sum_cons]
    have h1 := this is (d + 1) fun x hx => by have := List.sizeOf_lt_of_mem hx; simp only [Oct.mk.sizeOf_spec]; omega
    have h2 : ((Oct.mk t bs is).pre d).length = (Oct.preL is (d + 1)).length + 1 := rfl
    rw [cnt_mk, h2, h1]
    omega
termination_by o => SizeOf.sizeOf o
decreasing_by assumption

theorem foldl_max_le {l : List Nat} {a b : Nat} : l.foldl max a ≤ b ↔ a ≤ b ∧ ∀ x ∈ l, x ≤ b := by
  induction l generalizing a with
  | nil => simp
  | cons x l ih =>
    rw [List.foldl_cons, ih]
    simp only [List.mem_cons, forall_eq_or_imp, Nat.max_le, and_assoc]

theorem pre_dep : ∀ (o : Oct) (d : Nat), ((o.pre d).any fun p => decide (12 < p.2)) = decide (12 < d + o.dep - 1)
  | .mk t bs is, d => by
    have : ∀ (l : List Oct) (d : Nat), (∀ x ∈ l, SizeOf.sizeOf x < SizeOf.sizeOf (Oct.mk t bs is)) → (((Oct.preL l d).any fun p => decide (12 < p.2)) = true ↔ ∃ x ∈ l, 12 < d + x.dep - 1) := by
      intro l
      induction l with
      | nil => intro d _; rw [preL_nil]; simp
      | cons a l ih =>
        intro d h
        have h2 := h a List.mem_cons_self
        have h3 := pre_dep a d
        have h4 := ih d fun x hx => h x (List.mem_cons_of_mem _ hx)
        rw [preL_cons, List.any_append, h3, Bool.or_eq_true, h4, decide_eq_true_eq]
        simp
    have h1 := this is (d + 1) fun x hx => by have := List.sizeOf_lt_of_mem hx; simp only [Oct.mk.sizeOf_spec]; omega
    have h2 : (12 < d + (1 + (is.map Oct.dep).foldl max 0) - 1) ↔ (12 < d ∨ ∃ x ∈ is, 12 < d + 1 + x.dep - 1) := by
      constructor
      · intro h
        by_cases hd : 12 < d
        · exact .inl hd
        · refine .inr ?_
          apply Classical.byContradiction
          intro hn
          have : (is.map Oct.dep).foldl max 0 ≤ 12 - d := foldl_max_le.2 ⟨by omega, fun y hy => by
            obtain ⟨x, hx, rfl⟩ := List.mem_map.1 hy
            apply Classical.byContradiction
            intro h5
            exact hn ⟨x, hx, by omega⟩⟩
          omega
      · rintro (h | ⟨x, hx, h⟩)
        · omega
        · have := (foldl_max_le (l := is.map Oct.dep) (a := 0) (b := (is.map Oct.dep).foldl max 0)).1 (Nat.le_refl _)
          have := this.2 _ (List.mem_map_of_mem hx)
          omega
    rw [dep_mk, Bool.eq_iff_iff, decide_eq_true_eq, h2, ← h1, Oct.pre, List.any_cons, Bool.or_eq_true, decide_eq_true_eq]
    rfl
termination_by o => SizeOf.sizeOf o
decreasing_by assumption

theorem pre_good : ∀ (o : Oct) (d : Nat), ((o.pre d).all fun p => p.1.good) = o.shp
  | .mk t bs is, d => by
    have : ∀ (l : List Oct) (d : Nat), (∀ x ∈ l, SizeOf.sizeOf x < SizeOf.sizeOf (Oct.mk t bs is)) → ((Oct.preL l d).all fun p => p.1.good) = (l.map Oct.shp).all id := by
      intro l
      induction l with
      | nil => intro d _; rw [preL_nil]; rfl
      | cons a l ih =>
        intro d h
        have h2 := h a List.mem_cons_self
        have h3 := pre_good a d
        rw [preL_cons, List.all_append, h3, ih d fun x hx => h x (List.mem_cons_of_mem _ hx), List.map_cons, List.all_cons]
        rfl
    have h1 := this is (d + 1) fun x hx => by have := List.sizeOf_lt_of_mem hx; simp only [Oct.mk.sizeOf_spec]; omega
    rw [shp_mk, ← h1, Oct.pre, List.all_cons]
    rfl
termination_by o => SizeOf.sizeOf o
decreasing_by assumption

theorem dep_pos (o : Oct) : 1 ≤ o.dep := by cases o; rw [dep_mk]; omega

theorem checks_same (o : Oct) : refChk o = checkP o := by
  unfold refChk checkP
  rw [pre_len, pre_dep, pre_good, Nat.zero_add]
  have hd := dep_pos o
  have h1 : (4000 < o.cnt ∨ 12 < o.dep) ↔ (decide (4000 < o.cnt) || decide (12 < 1 + o.dep - 1)) = true := by
    simp only [Bool.or_eq_true, decide_eq_true_eq]
    omega
  have h2 : 65536 < o.rsz ↔ 65536 < o.size := by
    have := rsz_le_size o
    constructor
    · intro h; omega
    · intro h
      apply Classical.byContradiction
      intro hn
      have := this.2 (by omega)
      omega
  by_cases h : 4000 < o.cnt ∨ 12 < o.dep
  · rw [if_pos h, if_pos (h1.1 h)]
  · rw [if_neg h, if_neg (fun h' => h (h1.2 h'))]
    by_cases h3 : 65536 < o.rsz
    · rw [if_pos h3, if_pos (h2.1 h3)]
    · rw [if_neg h3, if_neg (fun h' => h3 (h2.2 h'))]

theorem shp_clean : ∀ (o : Oct), o.shp = true → o.clean = true
  | .mk t bs is, h => by
    rw [shp_mk, Bool.and_eq_true] at h
    rw [clean_mk, Bool.and_eq_true]
    refine ⟨?_, ?_⟩
    · have h1 := h.1
      have h2 : decide (0 < t.toNat) = true := by
        have h3 : ((decide (0 < t.toNat) && (decide (128 ≤ t.toNat) || is.length == 0)) && (decide (t.toNat < 128) || bs.length == 0)) = true := h1
        simp only [Bool.and_eq_true] at h3
        exact h3.1.1
      have h4 := of_decide_eq_true h2
      rw [bne_iff_ne]
      intro e; subst e
      exact absurd h4 (by decide)
    · rw [List.all_eq_true]
      intro x hx
      obtain ⟨y, hy, rfl⟩ := List.mem_map.1 hx
      have h2 := h.2
      rw [List.all_eq_true] at h2
      have h3 := h2 _ (List.mem_map_of_mem hy)
      have := List.sizeOf_lt_of_mem hy
      exact shp_clean y h3
termination_by o => SizeOf.sizeOf o
decreasing_by simp only [Oct.mk.sizeOf_spec]; omega

theorem decodes_same (b : List UInt8) : refDecP b = decP b := by
  unfold refDecP decP
  by_cases hb : 65536 < b.length
  · rw [if_pos hb, if_pos hb]
  · rw [if_neg hb, if_neg hb]
    unfold tk
    cases parse 12 b with
    | none => rfl
    | some x =>
      obtain ⟨o, r⟩ := x
      dsimp only
      cases r with
      | cons c l => cases o.clean <;> rfl
      | nil =>
        dsimp only
        cases hc : o.clean with
        | true => simp only [if_true]; rw [checks_same]
        | false =>
          have : ¬ checkP o = 0 := by
            intro h0
            rw [← checks_same] at h0
            unfold refChk at h0
            split at h0
            · cases h0
            · split at h0
              · rename_i hs
                rw [shp_clean o hs] at hc
                cases hc
              · cases h0
          rw [if_neg this]
          rfl
end Go.Gp.Tryd

/- The octet codec: what is encoded is read back. -/
namespace Go.Gp.Tryd
open Go.Proofs
set_option linter.unusedVariables false
set_option linter.unusedSimpArgs false
set_option maxRecDepth 100000
set_option maxHeartbeats 1000000

theorem beVal_beN : ∀ (n x : Nat), beVal 0 (beN x n) = x % 2 ^ (8 * n)
  | 0, x => by simp [beN, beVal, Nat.mod_one]
  | n + 1, x => by
    have hl : (beN x n).length = n := beN_length x n
    rw [beN, beVal, beVal_split, hl, beVal_beN n x, UInt8.toNat_ofNat']
    have h1 : 2 ^ (8 * (n + 1)) = 2 ^ (8 * n) * 256 := by rw [show 8 * (n + 1) = 8 * n + 8 from by omega, Nat.pow_add]
    rw [h1, Nat.mod_mul]
    simp only [Nat.mul_zero, Nat.zero_add]
    rw [show (2 : Nat) ^ 8 = 256 from rfl, Nat.mul_comm, Nat.add_comm]

theorem be_val {x : Nat} (h : x < 18446744073709551616) : beVal 0 (be x) = x := by
  rw [be, beVal_beN]
  apply Nat.mod_eq_of_lt
  by_cases h0 : x = 0
  · subst h0; exact Nat.two_pow_pos _
  · have h1 : x < 2 ^ bitLen x := by
      unfold bitLen
      rw [if_neg h0]
      exact Nat.lt_log2_self
    exact Nat.lt_of_lt_of_le h1 (Nat.pow_le_pow_right (by decide) (by omega))

theorem be_head (x : Nat) : (be x).head? ≠ some 0 := by
  induction x using Nat.strongRecOn with
  | _ x ih =>
  by_cases h0 : x = 0
  · subst h0; rw [be_zero]; simp
  · rw [be_pos (by omega)]
    by_cases h1 : x / 256 = 0
    · rw [h1, be_zero, List.nil_append, List.head?_cons]
      intro e
      injection e with e
      have := congrArg UInt8.toNat e
      rw [UInt8.toNat_ofNat'] at this
      have h2 : x < 256 := by omega
      rw [Nat.mod_eq_of_lt (by simpa using h2)] at this
      exact h0 this
    · have h2 := ih (x / 256) (by omega)
      have hne : be (x / 256) ≠ [] := by
        intro e
        rw [be_pos (by omega)] at e
        simp at e
      obtain ⟨c, l, hcl⟩ := List.exists_cons_of_ne_nil hne
      rw [hcl] at h2 ⊢
      exact h2

/-- Bytes that do not begin with nought are what their number gives. -/
theorem be_canon : ∀ (bs : List UInt8), bs.head? ≠ some 0 → be (beVal 0 bs) = bs := by
  intro bs h
  have h1 := beN_beVal bs
  rw [be]
  have : (bitLen (beVal 0 bs) + 7) / 8 = bs.length := by
    cases bs with
    | nil => rfl
    | cons b r =>
      have hb : b ≠ 0 := by intro e; subst e; exact h rfl
      have hb0 : 0 < b.toNat := by
        rcases Nat.eq_zero_or_pos b.toNat with h | h
        · exact absurd (UInt8.toNat_inj.1 h) hb
        · exact h
      have hlt := beVal_lt (b :: r) 0 0 (by decide)
      have hge : 2 ^ (8 * r.length) ≤ beVal 0 (b :: r) := by
        rw [beVal, beVal_split]
        have : 1 * 2 ^ (8 * r.length) ≤ (256 * 0 + b.toNat) * 2 ^ (8 * r.length) := Nat.mul_le_mul_right _ (by omega)
        omega
      rw [Nat.zero_add] at hlt
      have h2 := bitLen_lt hlt
      have h3 := bitLen_shift hge
      have h4 : 0 < beVal 0 (b :: r) / 2 ^ (8 * r.length) := Nat.div_pos hge (Nat.two_pow_pos _)
      have h5 : 0 < bitLen (beVal 0 (b :: r) / 2 ^ (8 * r.length)) := by unfold bitLen; rw [if_neg (by omega)]; omega
      simp only [List.length_cons] at h2 ⊢
      omega
  rw [this]
  exact h1

theorem lenOf_lenB {n : Nat} (hn : n < 16777216) (r : List UInt8) : lenOf (lenB n ++ r) = some (n, r) := by
  unfold lenB
  by_cases h1 : n < 128
  · rw [if_pos h1]
    show lenOf (UInt8.ofNat n :: r) = _
    have h2 : (UInt8.ofNat n).toNat = n := by rw [UInt8.toNat_ofNat']; omega
    rw [lenOf_cons, h2, if_pos h1]
  · rw [if_neg h1]
    have hge := wide_ge (n := n) (by omega)
    have hle : wide n ≤ 4 := by
      have := bitLen_lt (x := n) (k := 24) hn
      unfold wide; rw [if_neg h1]; omega
    have hl := beN_length n (wide n - 1)
    have h2 : (UInt8.ofNat (128 + (wide n - 1))).toNat = 128 + (wide n - 1) := by rw [UInt8.toNat_ofNat']; omega
    show lenOf (UInt8.ofNat (128 + (wide n - 1)) :: (beN n (wide n - 1) ++ r)) = _
    rw [lenOf_cons, h2, if_neg (by omega)]
    have h3 : 128 + (wide n - 1) - 128 = wide n - 1 := by omega
    rw [h3]
    have htk : (beN n (wide n - 1) ++ r).take (wide n - 1) = beN n (wide n - 1) := List.take_left' hl
    have hdr : (beN n (wide n - 1) ++ r).drop (wide n - 1) = r := by exact List.drop_left' hl
    have hv : beVal 0 (beN n (wide n - 1)) = n := by
      rw [beVal_beN]
      apply Nat.mod_eq_of_lt
      have h5 : n < 2 ^ bitLen n := by
        unfold bitLen
        rw [if_neg (by omega)]
        exact Nat.lt_log2_self
      refine Nat.lt_of_lt_of_le h5 (Nat.pow_le_pow_right (by decide) ?_)
      have h6 : wide n = 1 + (bitLen n + 7) / 8 := by unfold wide; rw [if_neg h1]
      omega
    rw [htk, hdr, hv, if_pos]
    refine ⟨by omega, by omega, by rw [List.length_append, hl]; omega, by omega⟩
end Go.Gp.Tryd

/- The reference's octets: ReadNum; its manifests: number, time, bytes. -/
namespace Go.Gp.Tryd
open Go.Proofs
set_option linter.unusedVariables false
set_option linter.unusedSimpArgs false
set_option maxHeartbeats 4000000
set_option maxRecDepth 100000

def numR (o : Oct) (t : UInt8) : Nat := if (readNum o t big).2 ≠ 0 then big else (readNum o t big).1
def timeR (x : Nat) : Int := if tmax < x then -1 else (x : Int)

end Go.Gp.Tryd

/- The reference's manifests: Value, Encode. -/
namespace Go.Gp.Tryd
open Go.Proofs
set_option linter.unusedVariables false
set_option linter.unusedSimpArgs false
set_option maxHeartbeats 4000000
set_option maxRecDepth 100000

/-- The size of a valid manifest. -/
theorem manO_small {m : Man} (h : check m = 0) (hv : m.v.toNat < 18446744073709551616) : (manO m).size ≤ 60000 := by
  obtain ⟨g1, g2, g3, g4, g5, g6⟩ := check_good h
  have s1 := numO_size 1 hv
  have s2 := numO_size 2 (x := m.a.toNat) (by omega)
  have s3 := numO_size 3 (x := m.b.toNat) (by omega)
  have sf : ∀ f : File, f.name.length ≤ 40 → (fileO f).size ≤ 150 := fun f hf => by
    have h2 : f.hs.length = 32 := by simp [File.hs]
    have w1 := wide_le f.name.length (by omega)
    have w2 := wide_le f.hs.length (by omega)
    have e : Oct.sizeL [strO 1 f.name, strO 2 f.hs] = (1 + wide f.name.length + f.name.length) + (1 + wide f.hs.length + f.hs.length) := by
      rw [sizeL_cons, sizeL_cons, strO, strO, leaf_size, leaf_size]; simp [Oct.sizeL]
    have w3 := wide_le (0 + Oct.sizeL [strO 1 f.name, strO 2 f.hs]) (by rw [e]; omega)
    rw [fileO, size_mk, List.length_nil]
    omega
  have s4 : ∀ fs : List File, (∀ f ∈ fs, f.name.length ≤ 40) → Oct.sizeL (fs.map fileO) ≤ 150 * fs.length := by
    intro fs
    induction fs with
    | nil => intro _; simp [Oct.sizeL]
    | cons f fs ih =>
      intro h
      rw [List.map_cons, sizeL_cons, List.length_cons]
      have := sf f (h f List.mem_cons_self)
      have := ih fun g hg => h g (List.mem_cons_of_mem _ hg)
      omega
  have s5 := s4 m.fs g6
  have e : Oct.sizeL (manHead m ++ m.fs.map fileO) ≤ 54 + 150 * m.fs.length := by
    rw [sizeL_append, manHead, sizeL_cons, sizeL_cons, sizeL_cons]
    simp only [Oct.sizeL]
    omega
  have w := wide_le (0 + Oct.sizeL (manHead m ++ m.fs.map fileO)) (by omega)
  rw [manO, size_mk, List.length_nil]
  omega

end Go.Gp.Tryd

/- The reference's manifests: Decode. -/
namespace Go.Gp.Tryd
open Go.Proofs
set_option linter.unusedVariables false
set_option linter.unusedSimpArgs false
set_option maxHeartbeats 4000000
set_option maxRecDepth 100000

def rfileOf (o : Oct) : File := ⟨(o.items.getD 0 zeroOct).bs, fun j => (o.items.getD 1 zeroOct).bs.getD j 0⟩
def rOk (o : Oct) : Bool := o.items.length == 2 && (o.items.getD 1 zeroOct).bs.length == 32
def rdMan (o : Oct) : Man := ⟨(numR (o.items.getD 0 zeroOct) 1 : Nat), timeR (numR (o.items.getD 1 zeroOct) 2), timeR (numR (o.items.getD 2 zeroOct) 3), (o.items.drop 3).map rfileOf⟩
def refDecM (b : List UInt8) : Option Man :=
  if (decP b).2 = 0 ∧ 3 ≤ (decP b).1.items.length ∧ ((decP b).1.items.drop 3).all rOk = true ∧ check (rdMan (decP b).1) = 0 ∧ (manO (rdMan (decP b).1)).enc = b then some (rdMan (decP b).1) else none
def refDecR (b : List UInt8) : AV := match refDecM b with
  | some m => .tup [m.av .no, .int .i64 0]
  | none => .tup [zeroMan.av .no, .int .i64 12]

/-- A row whose hash is known as far as k. -/
def rowK (nm bs : List UInt8) (k : Nat) : List AV := .str nm :: (List.range 32).map fun j => u8 (if j < k then bs.getD j 0 else 0)
theorem rowK_len (nm bs : List UInt8) (k : Nat) : (rowK nm bs k).length = 33 := by simp [rowK]
theorem rowK_put (nm bs : List UInt8) (k : Nat) (hk : k < 32) : putA (rowK nm bs k) (0 + 1 + k * 1) [u8 (bs.getD k 0)] = rowK nm bs (k + 1) := by
  show (rowK nm bs k).set (0 + 1 + k * 1) (u8 (bs.getD k 0)) = _
  rw [show 0 + 1 + k * 1 = k + 1 by omega, rowK, rowK, List.set_cons_succ]
  congr 1
  apply List.ext_getElem
  · simp
  · intro j h1 h2
    simp only [List.length_map, List.length_range] at h2
    rw [List.getElem_set]
    simp only [List.getElem_map, List.getElem_range]
    by_cases hj : k = j
    · subst hj
      rw [if_pos rfl, if_pos (by omega)]
    · rw [if_neg hj]
      by_cases h3 : j < k
      · rw [if_pos h3, if_pos (by omega)]
      · rw [if_neg h3, if_neg (by omega)]
theorem rowK_full (nm bs : List UInt8) : rowK nm bs 32 = (File.mk nm fun j => bs.getD j 0).row := by
  rw [rowK, File.row]
  have e : ((List.range 32).map fun j => u8 (if j < 32 then bs.getD j 0 else 0)) = (List.range 32).map fun j => u8 (bs.getD j 0) :=
    List.map_congr_left fun j hj => by rw [if_pos (List.mem_range.1 hj)]
  rw [e]

theorem numR_lt (o : Oct) (t : UInt8) : numR o t < 18446744073709551616 := by
  have h1 : big = 18446744073709551615 := rfl
  unfold numR
  split
  · omega
  · have := readNum_le o t big
    omega

end Go.Gp.Tryd

/- The octet codec: values are read back; manifests. -/
namespace Go.Gp.Tryd
open Go.Proofs
set_option linter.unusedVariables false
set_option linter.unusedSimpArgs false
set_option maxRecDepth 100000
set_option maxHeartbeats 1000000

theorem good_iff (t : UInt8) (bs : List UInt8) (is : List Oct) : (Oct.mk t bs is).good = true ↔ (0 < t.toNat ∧ (128 ≤ t.toNat ∨ is.length = 0) ∧ (t.toNat < 128 ∨ bs.length = 0)) := by
  show ((decide (0 < t.toNat) && (decide (128 ≤ t.toNat) || is.length == 0)) && (decide (t.toNat < 128) || bs.length == 0)) = true ↔ _
  simp only [Bool.and_eq_true, Bool.or_eq_true, decide_eq_true_eq, beq_iff_eq, and_assoc]

theorem parse_enc : ∀ (k : Nat) (o : Oct) (r : List UInt8), o.shp = true → o.size ≤ 16777216 → o.dep ≤ k → parse k (o.enc ++ r) = some (o, r)
  | 0, o, r, _, _, hd => by have := dep_pos o; omega
  | k + 1, .mk t bs is, r, hs, hz, hd => by
    rw [size_mk] at hz
    rw [shp_mk, Bool.and_eq_true, good_iff] at hs
    rw [dep_mk] at hd
    obtain ⟨⟨g1, g2, g3⟩, g4⟩ := hs
    have hcl : (bs ++ Oct.encL is).length = bs.length + Oct.sizeL is := by rw [List.length_append, encL_length]
    have he : (Oct.mk t bs is).enc ++ r = t :: (lenB (bs ++ Oct.encL is).length ++ ((bs ++ Oct.encL is) ++ r)) := by
      rw [enc_mk]; simp
    rw [he, parse_cons, lenOf_lenB (by omega)]
    have htk : ((bs ++ Oct.encL is) ++ r).take (bs ++ Oct.encL is).length = bs ++ Oct.encL is := List.take_left' rfl
    have hdr : ((bs ++ Oct.encL is) ++ r).drop (bs ++ Oct.encL is).length = r := List.drop_left' rfl
    have hle : (bs ++ Oct.encL is).length ≤ ((bs ++ Oct.encL is) ++ r).length := by
      have h9 : ∀ a b : List UInt8, a.length ≤ (a ++ b).length := fun a b => by rw [List.length_append]; omega
      exact h9 _ _
    show (if (bs ++ Oct.encL is).length ≤ ((bs ++ Oct.encL is) ++ r).length then _ else none) = _
    rw [if_pos hle, htk, hdr]
    by_cases ht : t.toNat < 128
    · rw [if_pos ht]
      have his : is = [] := by
        rcases g2 with h | h
        · omega
        · exact List.length_eq_zero_iff.1 h
      subst his
      rw [encL_nil, List.append_nil]
    · rw [if_neg ht]
      have hbs : bs = [] := by
        rcases g3 with h | h
        · omega
        · exact List.length_eq_zero_iff.1 h
      subst hbs
      rw [List.nil_append]
      have hall : ∀ (l : List Oct), (∀ x ∈ l, x.shp = true ∧ x.size ≤ 16777216 ∧ x.dep ≤ k) → parseAll k (Oct.encL l) = some l := by
        intro l
        induction l with
        | nil => intro _; rw [encL_nil, parseAll_nil]
        | cons a l ih =>
          intro h
          obtain ⟨h1, h2, h3⟩ := h a List.mem_cons_self
          have hp := parse_enc k a (Oct.encL l) h1 h2 h3
          rw [encL_cons]
          have hne : a.enc ++ Oct.encL l ≠ [] := by
            intro e
            have := congrArg List.length e
            rw [List.length_append, enc_length] at this
            have := size_pos a
            simp at *
            omega
          obtain ⟨c, q, hcq⟩ := List.exists_cons_of_ne_nil hne
          rw [hcq, parseAll_cons, ← hcq, hp]
          show (parseAll k (Oct.encL l)).map (a :: ·) = _
          rw [ih fun x hx => h x (List.mem_cons_of_mem _ hx)]
          rfl
      have := hall is fun x hx => by
        refine ⟨?_, ?_, ?_⟩
        · rw [List.all_eq_true] at g4
          exact g4 _ (List.mem_map_of_mem hx)
        · obtain ⟨i, hi, rfl⟩ := List.mem_iff_getElem.1 hx
          have := size_get hi
          omega
        · have h5 := (foldl_max_le (l := is.map Oct.dep) (a := 0) (b := (is.map Oct.dep).foldl max 0)).1 (Nat.le_refl _)
          have := h5.2 _ (List.mem_map_of_mem hx)
          omega
      rw [this]
      rfl

/-! ### Manifests -/
theorem leaf_shp (t : UInt8) (bs : List UInt8) (h0 : 0 < t.toNat) (h1 : t.toNat < 128) : (Oct.mk t bs []).shp = true := by
  rw [shp_mk, Bool.and_eq_true, good_iff]
  exact ⟨⟨h0, .inr rfl, .inl h1⟩, rfl⟩
theorem leaf_cnt (t : UInt8) (bs : List UInt8) : (Oct.mk t bs []).cnt = 1 := by rw [cnt_mk]; rfl
theorem leaf_dep (t : UInt8) (bs : List UInt8) : (Oct.mk t bs []).dep = 1 := by rw [dep_mk]; rfl
theorem fileO_shp (f : File) : (fileO f).shp = true := by
  rw [fileO, shp_mk, Bool.and_eq_true, good_iff]
  refine ⟨⟨by decide, .inl (by decide), .inr rfl⟩, ?_⟩
  simp only [List.map_cons, List.map_nil, List.all_cons, List.all_nil, strO, leaf_shp 1 _ (by decide) (by decide), leaf_shp 2 _ (by decide) (by decide)]
  rfl
theorem fileO_cnt (f : File) : (fileO f).cnt = 3 := by
  rw [fileO, cnt_mk]
  simp only [List.map_cons, List.map_nil, List.sum_cons, List.sum_nil, strO, leaf_cnt]
  rfl
theorem fileO_dep (f : File) : (fileO f).dep = 2 := by
  rw [fileO, dep_mk]
  simp only [List.map_cons, List.map_nil, List.foldl_cons, List.foldl_nil, strO, leaf_dep]
  rfl
theorem manO_shp (m : Man) : (manO m).shp = true := by
  rw [manO, shp_mk, Bool.and_eq_true, good_iff]
  refine ⟨⟨by decide, .inl (by decide), .inr rfl⟩, ?_⟩
  rw [List.map_append, List.all_append, Bool.and_eq_true]
  refine ⟨?_, ?_⟩
  · simp only [manHead, List.map_cons, List.map_nil, List.all_cons, List.all_nil, numO, leaf_shp 1 _ (by decide) (by decide), leaf_shp 2 _ (by decide) (by decide), leaf_shp 3 _ (by decide) (by decide)]
    rfl
  · rw [List.all_eq_true]
    intro x hx
    obtain ⟨y, hy, rfl⟩ := List.mem_map.1 hx
    obtain ⟨f, _, rfl⟩ := List.mem_map.1 hy
    exact fileO_shp f
theorem manO_cnt (m : Man) : (manO m).cnt = 4 + 3 * m.fs.length := by
  have : ∀ fs : List File, ((fs.map fileO).map Oct.cnt).sum = 3 * fs.length := by
    intro fs
    induction fs with
    | nil => rfl
    | cons f fs ih => rw [List.map_cons, List.map_cons, List.sum_cons, ih, fileO_cnt, List.length_cons]; omega
  rw [manO, cnt_mk, List.map_append, List.sum_append, this]
  simp only [manHead, List.map_cons, List.map_nil, List.sum_cons, List.sum_nil, numO, leaf_cnt]
  omega
theorem manO_dep (m : Man) : (manO m).dep ≤ 3 := by
  rw [manO, dep_mk]
  have : ((manHead m ++ m.fs.map fileO).map Oct.dep).foldl max 0 ≤ 2 := foldl_max_le.2 ⟨by omega, fun x hx => by
    obtain ⟨y, hy, rfl⟩ := List.mem_map.1 hx
    rcases List.mem_append.1 hy with hy | hy
    · simp only [manHead, List.mem_cons, List.not_mem_nil, or_false] at hy
      rcases hy with rfl | rfl | rfl <;> (rw [numO, leaf_dep]; omega)
    · obtain ⟨f, _, rfl⟩ := List.mem_map.1 hy
      rw [fileO_dep]; omega⟩
  omega

theorem manO_check {m : Man} (h : check m = 0) (hv : m.v.toNat < 18446744073709551616) : checkP (manO m) = 0 := by
  obtain ⟨g1, _⟩ := check_good h
  have h1 := manO_small h hv
  have h2 := rsz_le_size (manO m)
  rw [← checks_same, refChk, if_neg, if_pos (manO_shp m), if_neg (by omega)]
  have := manO_dep m
  rw [manO_cnt]
  omega

theorem decP_enc {m : Man} (h : check m = 0) (hv : m.v.toNat < 18446744073709551616) : decP (manO m).enc = (manO m, 0) := by
  have h1 := manO_small h hv
  have h2 := parse_enc 12 (manO m) [] (manO_shp m) (by omega) (by have := manO_dep m; omega)
  rw [List.append_nil] at h2
  rw [decP, if_neg (by rw [enc_length]; omega), h2]
  show (if checkP (manO m) = 0 then _ else _) = _
  rw [if_pos (manO_check h hv)]
end Go.Gp.Tryd

/- Manifests: both decodings agree. -/
namespace Go.Gp.Tryd
open Go.Proofs
set_option linter.unusedVariables false
set_option linter.unusedSimpArgs false
set_option maxRecDepth 100000
set_option maxHeartbeats 1000000

theorem orI_zero {a b : Int} : orI a b = 0 ↔ a = 0 ∧ b = 0 := by
  unfold orI
  by_cases h : a = 0
  · rw [if_pos h]; simp [h]
  · rw [if_neg h]; simp [h]

def fileErr0 (x : Oct) : Prop := (rs x 0 1 40).2 = 0 ∧ (rs x 1 2 32).2 = 0 ∧ ¬ (rs x 1 2 32).1.length < 32
theorem stepE_zero {e : Int} {x : Oct} : stepE e x = 0 ↔ e = 0 ∧ fileErr0 x := by
  unfold stepE fileErr0
  rw [orI_zero, orI_zero, orI_zero]
  by_cases h : (rs x 1 2 32).1.length < 32
  · rw [if_pos h]; simp [h]
  · rw [if_neg h]; simp [h, and_assoc]
theorem errAt_zero : ∀ {os : List Oct} {e : Int}, errAt e os = 0 ↔ e = 0 ∧ ∀ x ∈ os, fileErr0 x
  | [], e => by simp [errAt]
  | x :: os, e => by
    have : errAt e (x :: os) = errAt (stepE e x) os := rfl
    rw [this, errAt_zero, stepE_zero]
    simp [and_assoc]
theorem err3_zero {o : Oct} : err3 o = 0 ↔ (numAt o 0 big).2 = 0 ∧ (numAt o 1 tmax).2 = 0 ∧ (numAt o 2 tmax).2 = 0 := by
  unfold err3
  rw [orI_zero, orI_zero, orI_zero]
  omega

theorem readNum_zero {x : Oct} {t : UInt8} {most : Nat} (h : (readNum x t most).2 = 0) : x = numO t (beVal 0 x.bs) ∧ (readNum x t most).1 = beVal 0 x.bs ∧ beVal 0 x.bs ≤ most ∧ beVal 0 x.bs < 18446744073709551616 := by
  unfold readNum at h ⊢
  split at h
  · rename_i hc
    obtain ⟨h1, h2, h3, h4, h5⟩ := hc
    rw [if_pos ⟨h1, h2, h3, h4, h5⟩]
    refine ⟨?_, rfl, h5, beVal_le8 h3⟩
    obtain ⟨tg, bs, is⟩ := x
    have h1' : tg = t := h1
    have h2' : is = [] := List.length_eq_zero_iff.1 h2
    subst h1'; subst h2'
    show Oct.mk tg bs [] = Oct.mk tg (be (beVal 0 bs)) []
    rw [be_canon bs h4]
  · cases h

theorem cellsL_nil {is : List Oct} (h : Oct.cellsL is = []) : is = [] := by
  have := congrArg List.length h
  rw [cellsL_length] at this
  exact List.length_eq_zero_iff.1 this

theorem readStr_zero {x : Oct} {t : UInt8} {n : Int} (h : (readStr x.tag x.bs (Oct.cellsL x.items) t n).2 = 0) : x = strO t x.bs ∧ (readStr x.tag x.bs (Oct.cellsL x.items) t n).1 = x.bs ∧ (x.bs.length : Int) ≤ n := by
  unfold readStr at h ⊢
  split at h
  · rename_i hc
    obtain ⟨h1, h2, h3⟩ := hc
    rw [if_pos ⟨h1, h2, h3⟩]
    refine ⟨?_, rfl, h3⟩
    obtain ⟨tg, bs, is⟩ := x
    have h1' : tg = t := by
      have h9 : (tg == t) = true := h1
      simpa using h9
    have h2' : is = [] := cellsL_nil h2
    subst h1'; subst h2'
    rfl
  · cases h

theorem hs_of (l : List UInt8) (h : l.length = 32) : (File.mk [] fun j => l.getD j 0).hs = l := by
  show (List.range 32).map (fun j => l.getD j 0) = l
  apply List.ext_getElem
  · simp [h]
  · intro i h1 h2
    simp only [List.getElem_map, List.getElem_range]
    rw [List.getD_eq_getElem?_getD, List.getElem?_eq_getElem h2]
    rfl

theorem file_same {x : Oct} (h : seqOk x 129 2 2 = true) (he : fileErr0 x) : x = fileO (fileOf x) ∧ fileOf x = rfileOf x ∧ rOk x = true := by
  obtain ⟨e1, e2, e3⟩ := he
  simp only [seqOk, Bool.and_eq_true, beq_iff_eq, decide_eq_true_eq] at h
  obtain ⟨⟨⟨h1, h2⟩, h3⟩, h4⟩ := h
  obtain ⟨tg, bs, is⟩ := x
  have h1' : tg = 129 := h1
  have h2' : bs = [] := List.length_eq_zero_iff.1 h2
  subst h1'; subst h2'
  have hl : is.length = 2 := by have : is.length ≤ 2 := h4; have : 2 ≤ is.length := h3; omega
  obtain ⟨x0, x1, rfl⟩ : ∃ x0 x1, is = [x0, x1] := by
    match is, hl with
    | [x0, x1], _ => exact ⟨x0, x1, rfl⟩
  obtain ⟨a1, a2, a3⟩ := readStr_zero (x := x0) (t := 1) (n := 40) e1
  obtain ⟨b1, b2, b3⟩ := readStr_zero (x := x1) (t := 2) (n := 32) e2
  have r0 : (rs (Oct.mk 129 [] [x0, x1]) 0 1 40).1 = x0.bs := a2
  have r1 : (rs (Oct.mk 129 [] [x0, x1]) 1 2 32).1 = x1.bs := b2
  rw [r1] at e3
  have hl32 : x1.bs.length = 32 := by omega
  have hf : fileOf (Oct.mk 129 [] [x0, x1]) = ⟨x0.bs, fun j => x1.bs.getD j 0⟩ := by
    rw [fileOf, r0, r1]
  refine ⟨?_, ?_, ?_⟩
  · rw [hf, fileO]
    have hh : (File.mk x0.bs fun j => x1.bs.getD j 0).hs = x1.bs := hs_of x1.bs hl32
    rw [hh]
    show _ = Oct.mk 129 [] [strO 1 x0.bs, strO 2 x1.bs]
    rw [← a1, ← b1]
  · rw [hf]; rfl
  · show ((2 : Nat) == 2 && x1.bs.length == 32) = true
    rw [hl32]; rfl

theorem man_same {o : Oct} (h : seqOk o 128 3 203 = true) (h3 : err3 o = 0) (hf : ∀ x ∈ o.items.drop 3, seqOk x 129 2 2 = true ∧ fileErr0 x) : o = manO (manOf o) ∧ manOf o = rdMan o ∧ (o.items.drop 3).all rOk = true ∧ 3 ≤ o.items.length := by
  simp only [seqOk, Bool.and_eq_true, beq_iff_eq, decide_eq_true_eq] at h
  obtain ⟨⟨⟨h1, h2⟩, hl1⟩, hl2⟩ := h
  obtain ⟨tg, bs, is⟩ := o
  have h1' : tg = 128 := h1
  have h2' : bs = [] := List.length_eq_zero_iff.1 h2
  subst h1'; subst h2'
  have hl1' : 3 ≤ is.length := hl1
  obtain ⟨x0, x1, x2, l, rfl⟩ : ∃ x0 x1 x2 l, is = x0 :: x1 :: x2 :: l := by
    match is, hl1' with
    | x0 :: x1 :: x2 :: l, _ => exact ⟨x0, x1, x2, l, rfl⟩
  obtain ⟨n0, n1, n2⟩ := err3_zero.1 h3
  obtain ⟨a1, a2, a3, a4⟩ := readNum_zero (x := x0) (t := 1) (most := big) n0
  obtain ⟨b1, b2, b3, b4⟩ := readNum_zero (x := x1) (t := 2) (most := tmax) n1
  obtain ⟨c1, c2, c3, c4⟩ := readNum_zero (x := x2) (t := 3) (most := tmax) n2
  have hfl : ∀ x ∈ l, seqOk x 129 2 2 = true ∧ fileErr0 x := hf
  have hnum : ∀ (x : Oct) (t : UInt8) (v : Nat), x = numO t v → v < 18446744073709551616 → numR x t = v := fun x t v hx hv => by
    have hr : readNum x t big = (v, 0) := by
      have hb := be_val hv
      have hl := be_len8 (x := v) (by simpa using hv)
      subst hx
      unfold readNum
      have hbs : (numO t v).bs = be v := rfl
      rw [hbs, hb, if_pos ⟨rfl, rfl, hl, be_head v, by unfold big; omega⟩]
    unfold numR
    rw [hr]; rfl
  have v0 : (numAt (Oct.mk 128 [] (x0 :: x1 :: x2 :: l)) 0 big).1 = beVal 0 x0.bs := a2
  have v1 : (numAt (Oct.mk 128 [] (x0 :: x1 :: x2 :: l)) 1 tmax).1 = beVal 0 x1.bs := b2
  have v2 : (numAt (Oct.mk 128 [] (x0 :: x1 :: x2 :: l)) 2 tmax).1 = beVal 0 x2.bs := c2
  have hmf : l.map fileOf = l.map rfileOf := List.map_congr_left fun x hx => (file_same (hfl x hx).1 (hfl x hx).2).2.1
  have hmo : manOf (Oct.mk 128 [] (x0 :: x1 :: x2 :: l)) = ⟨(beVal 0 x0.bs : Nat), (beVal 0 x1.bs : Nat), (beVal 0 x2.bs : Nat), l.map fileOf⟩ := by
    unfold manOf
    rw [v0, v1, v2]; rfl
  refine ⟨?_, ?_, ?_, hl1'⟩
  · rw [hmo]
    show _ = Oct.mk 128 [] ([numO 1 (beVal 0 x0.bs), numO 2 (beVal 0 x1.bs), numO 3 (beVal 0 x2.bs)] ++ (l.map fileOf).map fileO)
    rw [← a1, ← b1, ← c1]
    have : (l.map fileOf).map fileO = l := by
      rw [List.map_map]
      conv => rhs; rw [← List.map_id l]
      exact List.map_congr_left fun x hx => ((file_same (hfl x hx).1 (hfl x hx).2).1).symm
    rw [this]; rfl
  · rw [hmo]
    have t1 : timeR (numR x1 2) = ((beVal 0 x1.bs : Nat) : Int) := by rw [hnum x1 2 _ b1 b4]; exact if_neg (by omega)
    have t2 : timeR (numR x2 3) = ((beVal 0 x2.bs : Nat) : Int) := by rw [hnum x2 3 _ c1 c4]; exact if_neg (by omega)
    show _ = Man.mk (numR x0 1 : Nat) (timeR (numR x1 2)) (timeR (numR x2 3)) (l.map rfileOf)
    rw [hnum x0 1 _ a1 a4, t1, t2, hmf]
  · rw [List.all_eq_true]
    exact fun x hx => (file_same (hfl x hx).1 (hfl x hx).2).2.2

theorem decP_sound {b : List UInt8} (h : (decP b).2 = 0) : (decP b).1.enc = b := by
  unfold decP at h ⊢
  split at h
  · cases h
  · rename_i h0
    rw [if_neg h0]
    split at h
    · rename_i o hp
      split at h
      · rename_i hc
        have := parse_sound 12 b o [] hp
        rw [List.append_nil] at this
        simp only [hp, hc, if_true]
        exact this.symm
      · cases h
    · cases h

theorem fileO_err0 {f : File} (h : f.name.length ≤ 40) : fileErr0 (fileO f) ∧ seqOk (fileO f) 129 2 2 = true := by
  have h2 : f.hs.length = 32 := by simp [File.hs]
  have r0 : rs (fileO f) 0 1 40 = (f.name, 0) := by
    show readStr 1 f.name (Oct.cellsL []) 1 40 = _
    unfold readStr
    rw [if_pos ⟨by decide, by rw [cellsL_map]; rfl, by omega⟩]
  have r1 : rs (fileO f) 1 2 32 = (f.hs, 0) := by
    show readStr 2 f.hs (Oct.cellsL []) 2 32 = _
    unfold readStr
    rw [if_pos ⟨by decide, by rw [cellsL_map]; rfl, by omega⟩]
  refine ⟨⟨by rw [r0], by rw [r1], by rw [r1]; show ¬ f.hs.length < 32; omega⟩, rfl⟩

theorem num_ok {t : UInt8} {x most : Nat} (hx : x < 18446744073709551616) (hm : x ≤ most) : (readNum (numO t x) t most).2 = 0 := by
  unfold readNum
  have hbs : (numO t x).bs = be x := rfl
  have hb := be_val hx
  rw [hbs, hb, if_pos ⟨rfl, rfl, be_len8 (by simpa using hx), be_head x, hm⟩]

/-- Both decodings agree. -/
theorem dec_same (b : List UInt8) : decMan b = refDecM b := by
  by_cases hA : (decP b).2 = 0 ∧ seqOk (decP b).1 128 3 203 = true ∧ ((decP b).1.items.drop 3).all (fun o => seqOk o 129 2 2) = true ∧ orI (errAt (err3 (decP b).1) ((decP b).1.items.drop 3)) (check (manOf (decP b).1)) = 0
  · rw [decMan, if_pos hA]
    obtain ⟨h1, h2, h3, h4⟩ := hA
    rw [orI_zero, errAt_zero] at h4
    rw [List.all_eq_true] at h3
    obtain ⟨⟨e3, ef⟩, hc⟩ := h4
    obtain ⟨m1, m2, m3, m4⟩ := man_same h2 e3 (fun x hx => ⟨h3 x hx, ef x hx⟩)
    rw [refDecM, ← m2, if_pos]
    refine ⟨h1, m4, m3, hc, ?_⟩
    rw [← m1]
    exact decP_sound h1
  · rw [decMan, if_neg hA]
    symm
    rw [refDecM, if_neg]
    rintro ⟨h1, h2, h3, h4, h5⟩
    apply hA
    obtain ⟨m, hm⟩ : ∃ m, m = rdMan (decP b).1 := ⟨_, rfl⟩
    rw [← hm] at h4 h5
    have hv : m.v.toNat < 18446744073709551616 := by
      rw [hm]
      have := numR_lt ((decP b).1.items.getD 0 zeroOct) 1
      show ((numR ((decP b).1.items.getD 0 zeroOct) 1 : Nat) : Int).toNat < _
      omega
    obtain ⟨g1, g2, g3, g4, g5, g6⟩ := check_good h4
    have hd := decP_enc h4 hv
    rw [h5] at hd
    have ho : (decP b).1 = manO m := by rw [hd]
    have hit : (manO m).items.drop 3 = m.fs.map fileO := rfl
    have hs : seqOk (manO m) 128 3 203 = true := by
      have hl : (manO m).items.length = 3 + m.fs.length := by
        show (manHead m ++ m.fs.map fileO).length = _
        rw [List.length_append, List.length_map]; rfl
      simp only [seqOk, Bool.and_eq_true, beq_iff_eq, decide_eq_true_eq]
      exact ⟨⟨⟨rfl, rfl⟩, by omega⟩, by omega⟩
    have hfl : ∀ x ∈ (manO m).items.drop 3, seqOk x 129 2 2 = true ∧ fileErr0 x := by
      rw [hit]
      intro x hx
      obtain ⟨f, hf, rfl⟩ := List.mem_map.1 hx
      exact ⟨(fileO_err0 (g6 f hf)).2, (fileO_err0 (g6 f hf)).1⟩
    have he3 : err3 (manO m) = 0 := by
      rw [err3_zero]
      exact ⟨num_ok (t := 1) hv (by unfold big; omega), num_ok (t := 2) (x := m.a.toNat) (by omega) (by unfold tmax; omega), num_ok (t := 3) (x := m.b.toNat) (by omega) (by unfold tmax; omega)⟩
    obtain ⟨m1, m2, m3, m4⟩ := man_same hs he3 hfl
    have hmm : manOf (manO m) = m := by rw [m2, ← ho, ← hm]
    rw [ho]
    refine ⟨h1, hs, ?_, ?_⟩
    · rw [List.all_eq_true]
      exact fun x hx => (hfl x hx).1
    · rw [orI_zero, errAt_zero, hmm]
      exact ⟨⟨he3, fun x hx => (hfl x hx).2⟩, h4⟩
end Go.Gp.Tryd

/- The manifest's checks: the law's own function. -/
namespace Go.Gp.Tryd
open Go.Proofs
set_option linter.unusedVariables false
set_option linter.unusedSimpArgs false
set_option maxHeartbeats 4000000

theorem eqAL_refl : ∀ (l : List AV), (∀ a ∈ l, ∃ v, a = .int .u8 v) → eqAL l l = true
  | [], _ => rfl
  | a :: l, h => by
    obtain ⟨v, rfl⟩ := h _ List.mem_cons_self
    simp only [eqAL, beq1, BEq.rfl, Bool.true_and]
    exact eqAL_refl l fun b hb => h b (List.mem_cons_of_mem _ hb)

theorem feq_refl (f : File) : feq f f = true := by
  unfold feq heq
  rw [eqAL_refl _ (hash_int f)]
  simp
theorem eqFs_refl : ∀ fs, eqFs fs fs = true
  | [] => rfl
  | f :: fs => by rw [eqFs, feq_refl, eqFs_refl fs]; rfl
theorem same_refl (m : Man) : same m m = true := by
  unfold same weq
  rw [eqFs_refl]
  simp

theorem findHash_int (m : Man) (y : List UInt8) : ∀ a ∈ findHash m y, ∃ v, a = .int .u8 v := by
  intro a ha
  obtain ⟨i, _, rfl⟩ := List.mem_map.1 ha
  exact ⟨_, rfl⟩
theorem findHash_len (m : Man) (y : List UInt8) : (findHash m y).length = 32 := rfl

theorem eqFound (m : Man) (y : List UInt8) : EqS E (.inl 61) [.agg (findHash m y)] [.agg (findHash m y)] true := by
  have := EqS.bytes (E := E) (t := 61) (q := .u8) rfl rfl (findHash_len m y) (findHash_len m y) (findHash_int m y) (findHash_int m y)
  rw [eqAL_refl _ (findHash_int m y)] at this
  exact this

end Go.Gp.Tryd

/- The laws of manifests: their own small functions. -/
namespace Go.Gp.Tryd
open Go.Proofs
set_option linter.unusedVariables false
set_option linter.unusedSimpArgs false
set_option maxHeartbeats 4000000
set_option maxRecDepth 100000

theorem file_A (n b : List UInt8) (H : List AObj) (hb : b.length ≤ 140737488355328) : CallsA E 26 [.str n, .str b] H (Is H (.agg (NFile.mk n b).row)) := by
  refine .enter Tryd.func26 rfl rfl rfl 9 Tryd.ntmps26 (Nat.le_of_ble_eq_true rfl) ?_
  repeat' first
    | (refine WpOps.p1 rfl rfl rfl (.strSl rfl rfl rfl rfl rfl hb) ?_)
    | refine WpA.seq ?_
    | refine WpA.region ?_
    | refine WpOps.op _ rfl rfl rfl rfl rfl ?_
    | refine WpOps.alloc _ rfl rfl rfl rfl rfl rfl ?_
    | refine WpOps.store rfl rfl rfl rfl rfl rfl rfl rfl rfl rfl ?_
    | refine WpOps.build _ rfl rfl rfl rfl rfl ?_
    | refine WpOps.nil ?_
    | refine WpA.ret ?_
  exact retK.ok rfl rfl rfl (.agg (bd_file _ _))

theorem strs_get {l : List (List UInt8)} {i : Nat} (h : i < l.length) : (strs l)[((i : Nat) : Int).toNat]? = some [.str l[i]] := by
  rw [Int.toNat_natCast, strs, List.getElem?_map, List.getElem?_eq_getElem h]; rfl
theorem sameNames_A (x y : List (List UInt8)) (tg tg' : Tag) (H : List AObj) (hx : x.length ≤ 1125899906842624) :
    CallsA E 44 [.sl tg 1 (strs x), .sl tg' 1 (strs y)] H (Is H (.bool (x == y))) := by
  have hlx := strs_len x
  have hly := strs_len y
  refine .enter Tryd.func44 rfl rfl rfl 26 Tryd.ntmps44 (Nat.le_of_ble_eq_true rfl) ?_
  repeat' first
    | refine WpA.seq ?_
    | refine WpA.region ?_
    | refine WpOps.op _ rfl rfl rfl rfl rfl ?_
    | refine WpA.block ?_
    | refine WpOps.nil ?_
    | refine WpA.ret ?_
    | refine WpA.skip ?_
    | refine WpA.cond _ rfl (fun h => ?_) (fun h => ?_)
  · refine retK.ok rfl rfl (congrArg AV.bool ?_) .bool
    simp only [hlx, hly, bne_iff_ne, ne_eq] at h
    symm
    rw [beq_eq_false_iff_ne]
    intro e; subst e; exact h rfl
  · have hl : x.length = y.length := by simp only [hlx, hly, bne_eq_false_iff_eq] at h; omega
    clear h
    refine WpA.loopFor x.length (fun i => [(0, .sl tg 1 (strs x)), (1, .sl tg' 1 (strs y)), (5, .int .i64 (i : Nat))]) (fun _ => H ++ []) (fun i => x.take i = y.take i) rfl ⟨rfl, rfl, rfl, trivial⟩ rfl (fun i hi hok => ?_) (fun hok => ?_)
    · repeat' first
        | refine WpA.seq ?_
        | refine WpA.region ?_
        | refine WpOps.op _ rfl rfl rfl rfl rfl ?_
        | (refine LexA.elem [.str x[i]] rfl rfl rfl rfl rfl rfl rfl rfl rfl (Int.natCast_nonneg i) (strs_get hi) ?_)
        | (refine LexA.elem [.str (y[i]'(by omega))] rfl rfl rfl rfl rfl rfl rfl rfl rfl (Int.natCast_nonneg i) (strs_get (by omega)) ?_)
        | refine WpA.block ?_
        | refine WpA.exit ?_
        | refine WpOps.nil ?_
        | refine WpA.ret ?_
        | refine WpA.skip ?_
        | refine WpA.cond _ rfl (fun h => ?_) (fun h => ?_)
        | refine WpA.draw (by kernel_rfl) ?_
        | refine LexA.op _ rfl rfl rfl rfl rfl ?_
        | refine LexA.nil ?_
      · refine retK.ok rfl rfl (congrArg AV.bool ?_) .bool
        rw [Bool.not_eq_true'] at h
        symm
        rw [beq_eq_false_iff_ne]
        intro e; subst e
        simp at h
      · rw [Bool.not_eq_false'] at h
        have he : x[i] = y[i]'(by omega) := by simpa using h
        refine ⟨?_, ⟨rfl, rfl, congrArg (AV.int .i64) (wrap64 (by omega) (by omega)), trivial⟩, rfl⟩
        rw [List.take_succ_eq_append_getElem hi, List.take_succ_eq_append_getElem (by omega), hok, he]
      · simp only [hlx, decide_eq_false_iff_not] at *
        omega
    · repeat' first
        | refine WpA.seq ?_
        | refine WpA.region ?_
        | refine WpOps.op _ rfl rfl rfl rfl rfl ?_
        | refine WpA.block ?_
        | refine WpA.exit ?_
        | refine WpOps.nil ?_
        | refine WpA.ret ?_
        | refine WpA.skip ?_
        | refine WpA.cond _ rfl (fun h => ?_) (fun h => ?_)
        | refine WpA.draw (by kernel_rfl) ?_
        | refine LexA.op _ rfl rfl rfl rfl rfl ?_
      · simp only [hlx, decide_eq_true_eq] at *
        omega
      · refine retK.ok rfl rfl (congrArg AV.bool ?_) .bool
        rw [List.take_length, hl, List.take_length] at hok
        rw [hok]; simp

def sameRep (r s : Rep) : Bool := r.miss == s.miss && (r.wrong == s.wrong && r.extra == s.extra)
theorem sameReport_A (r s : Rep) (H : List AObj) (h1 : r.miss.length ≤ 1125899906842624) (h2 : r.wrong.length ≤ 1125899906842624) (h3 : r.extra.length ≤ 1125899906842624) :
    CallsA E 18 [r.av, s.av] H (Is H (.bool (sameRep r s))) := by
  have e1 := fun H => sameNames_A r.miss s.miss .no .no H h1
  have e2 := fun H => sameNames_A r.wrong s.wrong .no .no H h2
  have e3 := fun H => sameNames_A r.extra s.extra .no .no H h3
  refine .enter Tryd.func18 rfl rfl rfl 24 Tryd.ntmps18 (Nat.le_of_ble_eq_true rfl) ?_
  cases b1 : r.miss == s.miss <;> cases b2 : r.wrong == s.wrong <;> rw [b1] at e1 <;> rw [b2] at e2
  · repeat' first
      | refine WpA.seq ?_
      | refine WpA.region ?_
      | refine WpOps.op _ rfl rfl rfl rfl rfl ?_
      | refine WpOps.box _ rfl rfl rfl rfl rfl ?_
      | refine WpOps.skip rfl rfl rfl ?_
      | (refine WpOps.call rfl rfl rfl rfl rfl (by exact e1 _) ?_; rintro _ _ ⟨rfl, rfl⟩)
      | refine WpOps.nil ?_
      | refine WpA.ret ?_
    exact retK.ok rfl rfl (congrArg AV.bool (by rw [sameRep, b1]; rfl)) .bool
  · repeat' first
      | refine WpA.seq ?_
      | refine WpA.region ?_
      | refine WpOps.op _ rfl rfl rfl rfl rfl ?_
      | refine WpOps.box _ rfl rfl rfl rfl rfl ?_
      | refine WpOps.skip rfl rfl rfl ?_
      | (refine WpOps.call rfl rfl rfl rfl rfl (by exact e1 _) ?_; rintro _ _ ⟨rfl, rfl⟩)
      | refine WpOps.nil ?_
      | refine WpA.ret ?_
    exact retK.ok rfl rfl (congrArg AV.bool (by rw [sameRep, b1]; rfl)) .bool
  · repeat' first
      | refine WpA.seq ?_
      | refine WpA.region ?_
      | refine WpOps.op _ rfl rfl rfl rfl rfl ?_
      | refine WpOps.box _ rfl rfl rfl rfl rfl ?_
      | refine WpOps.skip rfl rfl rfl ?_
      | (refine WpOps.call rfl rfl rfl rfl rfl (by exact e1 _) ?_; rintro _ _ ⟨rfl, rfl⟩)
      | (refine WpOps.call rfl rfl rfl rfl rfl (by exact e2 _) ?_; rintro _ _ ⟨rfl, rfl⟩)
      | refine WpOps.nil ?_
      | refine WpA.ret ?_
    exact retK.ok rfl rfl (congrArg AV.bool (by rw [sameRep, b1, b2]; rfl)) .bool
  · repeat' first
      | refine WpA.seq ?_
      | refine WpA.region ?_
      | refine WpOps.op _ rfl rfl rfl rfl rfl ?_
      | refine WpOps.box _ rfl rfl rfl rfl rfl ?_
      | (refine WpOps.call rfl rfl rfl rfl rfl (by exact e1 _) ?_; rintro _ _ ⟨rfl, rfl⟩)
      | (refine WpOps.call rfl rfl rfl rfl rfl (by exact e2 _) ?_; rintro _ _ ⟨rfl, rfl⟩)
      | (refine WpOps.call rfl rfl rfl rfl rfl (by exact e3 _) ?_; rintro _ _ ⟨rfl, rfl⟩)
      | refine WpOps.nil ?_
      | refine WpA.ret ?_
    exact retK.ok rfl rfl (congrArg AV.bool (by rw [sameRep, b1, b2]; rfl)) .bool

def greatF1 (f : NFile) : Bool := decide (200 < f.name.length) || decide (300 < f.bytes.length)
def greatFs (fs : List NFile) : Bool := (decide (12 < fs.length) && decide (fs.length ≤ 200)) || (decide (210 < fs.length) || fs.any greatF1)
theorem greatFs_false {fs : List NFile} (h : greatFs fs = false) : (fs.length ≤ 12 ∨ 200 < fs.length ∧ fs.length ≤ 210) ∧ ∀ f ∈ fs, f.name.length ≤ 200 ∧ f.bytes.length ≤ 300 := by
  simp only [greatFs, Bool.or_eq_false_iff, Bool.and_eq_false_iff, decide_eq_false_iff_not, List.any_eq_false] at h
  refine ⟨by omega, fun f hf => ?_⟩
  have := h.2.2 f hf
  simp only [greatF1, Bool.or_eq_true, decide_eq_true_eq] at this
  omega
theorem greatFiles_A (fs : List NFile) (H : List AObj) (hl : fs.length ≤ 1000000000000000) : CallsA E 10 [.sl .no 2 (nrows fs)] H (Is H (.bool (greatFs fs))) := by
  have hlen := nrows_len fs
  refine .enter Tryd.func10 rfl rfl rfl 39 Tryd.ntmps10 (Nat.le_of_ble_eq_true rfl) ?_
  by_cases hbig : (12 < fs.length ∧ fs.length ≤ 200) ∨ 210 < fs.length
  · have hg : greatFs fs = true := by
      simp only [greatFs, Bool.or_eq_true, Bool.and_eq_true, decide_eq_true_eq]
      rcases hbig with h | h
      · exact .inl h
      · exact .inr (.inl h)
    rw [hg]
    repeat' first
      | refine WpA.seq ?_
      | refine WpA.region ?_
      | refine WpOps.op _ rfl rfl rfl rfl rfl ?_
      | refine WpOps.skip rfl rfl rfl ?_
      | refine WpOps.gsplit _ rfl rfl rfl (fun h => ?_) (fun h => ?_)
      | refine WpA.block ?_
      | refine WpOps.nil ?_
      | refine WpA.ret ?_
      | refine WpA.skip ?_
      | refine WpA.condT rfl ?_
      | refine WpA.cond _ rfl (fun h => ?_) (fun h => ?_)
    all_goals first
      | exact retK.ok rfl rfl rfl .bool
      | (exfalso; simp only [hlen, cond_true, cond_false, decide_eq_true_eq, decide_eq_false_iff_not] at *; omega)
  · have hg : greatFs fs = fs.any greatF1 := by
      have h1 : (decide (12 < fs.length) && decide (fs.length ≤ 200)) = false := by
        cases h : decide (12 < fs.length) <;> simp at h ⊢
        omega
      have h2 : decide (210 < fs.length) = false := by simp; omega
      rw [greatFs, h1, h2]; rfl
    rw [hg]
    repeat' first
      | refine WpA.seq ?_
      | refine WpA.region ?_
      | refine WpOps.op _ rfl rfl rfl rfl rfl ?_
      | refine WpOps.skip rfl rfl rfl ?_
      | refine WpOps.gsplit _ rfl rfl rfl (fun h => ?_) (fun h => ?_)
      | refine WpA.block ?_
      | refine WpOps.nil ?_
      | refine WpA.ret ?_
      | refine WpA.skip ?_
      | refine WpA.condT rfl ?_
      | refine WpA.cond _ rfl (fun h => ?_) (fun h => ?_)
    all_goals first
      | (exfalso; simp only [hlen, cond_true, cond_false, decide_eq_true_eq, decide_eq_false_iff_not] at *; omega)
      | skip
    all_goals
      refine WpA.loopFor fs.length (fun i => [(0, .sl .no 2 (nrows fs)), (3, .int .i64 (i : Nat))]) (fun _ => H ++ []) (fun i => (fs.take i).any greatF1 = false) rfl ⟨rfl, rfl, trivial⟩ rfl (fun i hi hok => ?_) (fun hok => ?_)
      · have hge := nrows_get hi
        have hst : (fs.take (i + 1)).any greatF1 = greatF1 fs[i] := by rw [List.take_succ_eq_append_getElem hi, List.any_append, hok]; simp
        have hlb : (fs[i].bytes.map byteRow).length = fs[i].bytes.length := List.length_map _
        have hany : greatF1 fs[i] = true → fs.any greatF1 = true := fun h => List.any_eq_true.2 ⟨_, List.getElem_mem hi, h⟩
        repeat' first
          | (refine WpOps.elem _ rfl rfl rfl rfl rfl rfl rfl rfl rfl (Int.natCast_nonneg i) hge ?_)
          | refine WpA.seq ?_
          | refine WpA.region ?_
          | refine WpOps.op _ rfl rfl rfl rfl rfl ?_
          | refine WpOps.skip rfl rfl rfl ?_
          | refine WpOps.gsplit _ rfl rfl rfl (fun h => ?_) (fun h => ?_)
          | refine WpA.block ?_
          | refine WpA.exit ?_
          | refine WpOps.nil ?_
          | refine WpA.ret ?_
          | refine WpA.skip ?_
          | refine WpA.condT rfl ?_
          | refine WpA.cond _ rfl (fun h => ?_) (fun h => ?_)
        all_goals first
          | (exfalso; simp only [hlen, cond_true, cond_false, decide_eq_true_eq, decide_eq_false_iff_not] at *; omega)
          | (refine retK.ok rfl rfl (congrArg AV.bool ?_) .bool
             symm
             apply hany
             simp only [greatF1, Bool.or_eq_true, decide_eq_true_eq]
             simp only [hlb, cond_true, cond_false, decide_eq_true_eq, decide_eq_false_iff_not] at *
             omega)
          | (refine ⟨?_, ⟨rfl, congrArg (AV.int .i64) (wrap64 (by omega) (by omega)), trivial⟩, rfl⟩
             rw [hst]
             simp only [greatF1, Bool.or_eq_false_iff, decide_eq_false_iff_not]
             simp only [hlb, cond_true, cond_false, decide_eq_true_eq, decide_eq_false_iff_not] at *
             omega)
      · repeat' first
          | refine WpA.seq ?_
          | refine WpA.region ?_
          | refine WpOps.op _ rfl rfl rfl rfl rfl ?_
          | refine WpA.block ?_
          | refine WpA.exit ?_
          | refine WpOps.nil ?_
          | refine WpA.ret ?_
          | refine WpA.skip ?_
          | refine WpA.cond _ rfl (fun h => ?_) (fun h => ?_)
        · exfalso
          simp only [hlen, cond_true, cond_false, decide_eq_true_eq] at *
          omega
        · rw [List.take_length] at hok
          exact retK.ok rfl rfl (congrArg AV.bool hok.symm) .bool
end Go.Gp.Tryd

/- Manifests: what is encoded is decoded, and back. -/
namespace Go.Gp.Tryd
open Go.Proofs
set_option linter.unusedVariables false
set_option linter.unusedSimpArgs false
set_option maxRecDepth 100000
set_option maxHeartbeats 1000000

/-- A file as it is read: its digest's first 32 bytes. -/
def cf (f : File) : File := ⟨f.name, fun j => f.hs.getD j 0⟩
def cm (m : Man) : Man := ⟨m.v, m.a, m.b, m.fs.map cf⟩
theorem hs_length (f : File) : f.hs.length = 32 := by simp [File.hs]
theorem cf_hs (f : File) : (cf f).hs = f.hs := hs_of f.hs (hs_length f)
theorem row_hs (f : File) : f.row = .str f.name :: f.hs.map u8 := by
  unfold File.row File.hs
  rw [List.map_map]; rfl
theorem hash_hs (f : File) : f.hash = f.hs.map u8 := by
  unfold File.hash File.hs
  rw [List.map_map]; rfl
theorem cf_row (f : File) : (cf f).row = f.row := by rw [row_hs, row_hs, cf_hs]; rfl
theorem cf_hash (f : File) : (cf f).hash = f.hash := by rw [hash_hs, hash_hs, cf_hs]
theorem cf_fileO (f : File) : fileO (cf f) = fileO f := by unfold fileO; rw [cf_hs]; rfl
theorem cm_rows (m : Man) : rows (cm m).fs = rows m.fs := by
  unfold rows
  show (m.fs.map cf).map File.row = _
  rw [List.map_map]
  exact List.map_congr_left fun f _ => cf_row f
theorem cm_av (m : Man) (tg : Tag) : (cm m).av tg = m.av tg := by
  unfold Man.av
  rw [cm_rows]; rfl
theorem cm_manO (m : Man) : manO (cm m) = manO m := by
  show Oct.mk 128 [] (manHead m ++ (m.fs.map cf).map fileO) = _
  rw [List.map_map]
  have : m.fs.map (fileO ∘ cf) = m.fs.map fileO := List.map_congr_left fun f _ => cf_fileO f
  rw [this]; rfl
theorem cm_okAt (fs : List File) (i : Nat) : okAt (fs.map cf) i = okAt fs i := by
  unfold okAt
  rw [List.getElem?_map]
  cases fs[i]? with
  | none => rfl
  | some f =>
    cases i with
    | zero => rfl
    | succ k =>
      simp only [List.getElem?_map]
      cases fs[k]? <;> rfl
theorem cm_check (m : Man) : check (cm m) = check m := by
  unfold check manOk okUpTo
  show (if 200 < (m.fs.map cf).length then _ else if (win m.a m.b && (List.range (m.fs.map cf).length).all (okAt (m.fs.map cf))) then _ else _) = _
  rw [List.length_map]
  have : okAt (m.fs.map cf) = okAt m.fs := funext fun i => cm_okAt m.fs i
  rw [this]
theorem eqFs_cf : ∀ fs : List File, eqFs fs (fs.map cf) = true
  | [] => rfl
  | f :: fs => by
    rw [List.map_cons, eqFs, eqFs_cf fs]
    have h : feq f (cf f) = true := by
      unfold feq heq
      rw [cf_hash, eqAL_refl _ (hash_int f)]
      simp [cf]
    rw [h]; rfl
theorem same_cm (m : Man) : same m (cm m) = true := by
  unfold same weq
  show (m.v == m.v && ((m.a == m.a && _) && eqFs m.fs (m.fs.map cf))) = true
  rw [eqFs_cf]
  simp [cm]

theorem rd_numO {t : UInt8} {x : Nat} (hx : x < 18446744073709551616) : numR (numO t x) t = x := by
  have hr : readNum (numO t x) t big = (x, 0) := by
    have hb := be_val hx
    have hl := be_len8 (x := x) (by simpa using hx)
    unfold readNum
    have hbs : (numO t x).bs = be x := rfl
    rw [hbs, hb, if_pos ⟨rfl, rfl, hl, be_head x, by unfold big; omega⟩]
  unfold numR
  rw [hr]; rfl

theorem rdMan_manO {m : Man} (h : check m = 0) (hv0 : 0 ≤ m.v) (hv : m.v < 18446744073709551616) : rdMan (manO m) = cm m := by
  obtain ⟨g1, g2, g3, g4, g5, g6⟩ := check_good h
  have t1 : timeR (numR (numO 2 m.a.toNat) 2) = m.a := by
    rw [rd_numO (by omega)]
    unfold timeR tmax
    rw [if_neg (by omega)]
    omega
  have t2 : timeR (numR (numO 3 m.b.toNat) 3) = m.b := by
    rw [rd_numO (by omega)]
    unfold timeR tmax
    rw [if_neg (by omega)]
    omega
  have t0 : ((numR (numO 1 m.v.toNat) 1 : Nat) : Int) = m.v := by
    rw [rd_numO (by omega)]
    omega
  show Man.mk ((numR (numO 1 m.v.toNat) 1 : Nat) : Int) (timeR (numR (numO 2 m.a.toNat) 2)) (timeR (numR (numO 3 m.b.toNat) 3)) ((m.fs.map fileO).map rfileOf) = _
  rw [t0, t1, t2, List.map_map]
  rfl

/-- Decode after Encode. -/
theorem dec_enc {m : Man} (h : check m = 0) (hv0 : 0 ≤ m.v) (hv : m.v < 18446744073709551616) : decMan (manO m).enc = some (cm m) := by
  have hd := decP_enc h (by omega)
  rw [dec_same]
  unfold refDecM
  rw [hd]
  simp only
  rw [rdMan_manO h hv0 hv, if_pos]
  refine ⟨trivial, ?_, ?_, ?_, ?_⟩
  · show 3 ≤ (manHead m ++ m.fs.map fileO).length
    rw [List.length_append]
    exact Nat.le_add_right 3 _
  · show (m.fs.map fileO).all rOk = true
    rw [List.all_eq_true]
    intro x hx
    obtain ⟨f, _, rfl⟩ := List.mem_map.1 hx
    show ((2 : Nat) == 2 && f.hs.length == 32) = true
    rw [hs_length]; rfl
  · rw [cm_check, h]
  · rw [cm_manO]

/-- Encode after Decode. -/
theorem enc_dec {b : List UInt8} {m : Man} (h : decMan b = some m) : check m = 0 ∧ (manO m).enc = b ∧ 0 ≤ m.v ∧ m.v < 18446744073709551616 := by
  rw [dec_same] at h
  unfold refDecM at h
  split at h
  · rename_i hc
    obtain ⟨_, _, _, h1, h2⟩ := hc
    cases h
    have := numR_lt ((decP b).1.items.getD 0 zeroOct) 1
    exact ⟨h1, h2, Int.natCast_nonneg _, by show ((numR ((decP b).1.items.getD 0 zeroOct) 1 : Nat) : Int) < _; omega⟩
  · cases h
end Go.Gp.Tryd
