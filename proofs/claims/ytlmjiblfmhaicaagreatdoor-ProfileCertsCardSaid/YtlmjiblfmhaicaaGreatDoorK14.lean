/- Part of a proof: GpA55, GpA56, GpA45, GpA57 -/
import Derived.Test.YtlmjiblfmhaicaaGreatDoorK13
import Derived.Lib.SplitLaws
import Derived.Lib.Join
import Derived.Lib.CutLaws
import Derived.Lib.AtoiAll
import Derived.Lib.ItoaNum
import Derived.Lib.ItoaMem

set_option linter.unusedSectionVars false

/- Strings cut at a byte, hosts by their labels and byte by byte, numbers written and read: plain facts. -/
namespace Go.Gp
open Go.Lib
set_option linter.unusedVariables false
set_option linter.unusedSimpArgs false

/-! ### Strings cut at a byte -/
def splitC (c : UInt8) : List UInt8 → List (List UInt8)
  | [] => [[]]
  | b :: l => if b = c then [] :: splitC c l else match splitC c l with
    | h :: t => (b :: h) :: t
    | [] => [[b]]
theorem splitC_ne (c : UInt8) : ∀ s, ∃ h t, splitC c s = h :: t
  | [] => ⟨_, _, rfl⟩
  | b :: l => by
    unfold splitC
    split
    · exact ⟨_, _, rfl⟩
    · obtain ⟨h, t, e⟩ := splitC_ne c l
      rw [e]; exact ⟨_, _, rfl⟩
theorem index_hd (c : UInt8) (l : List UInt8) : index (c :: l) [c] = 0 := by
  unfold index
  rw [if_pos (by simp [List.isPrefixOf])]
theorem index_tl {b c : UInt8} (h : b ≠ c) (l : List UInt8) : index (b :: l) [c] = if index l [c] == -1 then -1 else index l [c] + 1 := by
  rw [index, if_neg (by simp [List.isPrefixOf]; exact fun e => h e.symm)]
theorem index_miss1 {c : UInt8} : ∀ {s : List UInt8}, c ∉ s → index s [c] = -1
  | [], _ => rfl
  | b :: l, h => by
    rw [index_tl (fun e => h (by rw [e]; exact List.mem_cons_self)), index_miss1 (fun hm => h (List.mem_cons_of_mem _ hm))]; rfl
theorem index_hit1 {c : UInt8} : ∀ {s : List UInt8}, c ∈ s → ∃ i : Nat, index s [c] = i
  | b :: l, h => by
    by_cases e : b = c
    · subst e; exact ⟨0, index_hd _ _⟩
    · have hm : c ∈ l := by
        rcases List.mem_cons.1 h with h | h
        · exact absurd h.symm e
        · exact h
      obtain ⟨i, hi⟩ := index_hit1 hm
      refine ⟨i + 1, ?_⟩
      rw [index_tl e, hi, if_neg (by simp)]; rfl
theorem splitC_none {c : UInt8} : ∀ {s : List UInt8}, c ∉ s → splitC c s = [s]
  | [], _ => rfl
  | b :: l, h => by
    rw [splitC, if_neg (fun e => h (by rw [e]; exact List.mem_cons_self)), splitC_none (fun hm => h (List.mem_cons_of_mem _ hm))]
theorem splitK_c (c : UInt8) : ∀ s : List UInt8, splitK [c] 0 (s.count c) s = splitC c s
  | [] => rfl
  | b :: l => by
    by_cases e : b = c
    · subst e
      rw [List.count_cons_self, splitK, index_hd, if_neg (by decide), splitC, if_pos rfl]
      show [] :: splitK [b] 0 (l.count b) l = _
      rw [splitK_c b l]
    · rw [List.count_cons_of_ne (by simpa using e)]
      by_cases hm : c ∈ l
      · obtain ⟨i, hi⟩ := index_hit1 hm
        have ih := splitK_c c l
        obtain ⟨k, hk⟩ : ∃ k, l.count c = k + 1 := ⟨l.count c - 1, by have := List.count_pos_iff.2 hm; omega⟩
        have hn : (index l [c] == -1) = false := by rw [hi]; simp
        have hn2 : (index (b :: l) [c] == -1) = false := by rw [index_tl e, hn, if_neg (by decide), hi]; simp; omega
        rw [hk] at ih ⊢
        rw [splitK, hn, if_neg (by decide), hi] at ih
        rw [splitK, hn2, if_neg (by decide), splitC, if_neg e, ← ih, index_tl e, hn, if_neg (by decide), hi]
        have h1 : ((i : Int) + 1).toNat = i + 1 := by omega
        have h2 : (i : Int).toNat = i := by omega
        rw [h1, h2]
        simp
      · rw [List.count_eq_zero.2 hm, splitC_none (fun h => by
          rcases List.mem_cons.1 h with h | h
          · exact e h.symm
          · exact hm h)]
        rfl
theorem cut_none {c : UInt8} {s : List UInt8} (h : c ∉ s) : cut s [c] = (s, [], false) := by
  rw [cut, index_miss1 h, if_neg (by decide)]
theorem index_app {b sep : List UInt8} {c0 : UInt8} {tl : List UInt8} (hs : sep = c0 :: tl) : ∀ {a : List UInt8}, c0 ∉ a → index (a ++ (sep ++ b)) sep = (a.length : Nat)
  | [], _ => by
    subst hs
    rw [List.nil_append, List.cons_append, index, if_pos (by
      rw [List.isPrefixOf_iff_prefix, List.cons_prefix_cons]; exact ⟨rfl, List.prefix_append _ _⟩)]
    rfl
  | x :: a, h => by
    have ih := index_app (b := b) hs (a := a) (fun hm => h (List.mem_cons_of_mem _ hm))
    have hx : x ≠ c0 := fun e => h (by rw [e]; exact List.mem_cons_self)
    rw [List.cons_append, index, if_neg (by subst hs; simp [List.isPrefixOf]; exact fun e => absurd e.symm hx), ih, if_neg (by simp)]
    simp
theorem cut_app {a b sep : List UInt8} {c0 : UInt8} {tl : List UInt8} (hs : sep = c0 :: tl) (h : c0 ∉ a) : cut (a ++ (sep ++ b)) sep = (a, b, true) := by
  rw [cut, index_app (a := a) hs h, if_pos (Int.natCast_nonneg _)]
  simp only [Int.toNat_natCast]
  rw [List.take_left, ← List.append_assoc, ← List.length_append, List.drop_left]
theorem cut_at {a b : List UInt8} {c : UInt8} (h : c ∉ a) : cut (a ++ (c :: b)) [c] = (a, b, true) := cut_app (sep := [c]) rfl h

/-! ### Hosts -/
def lowMinus (b : UInt8) : Bool := ((decide (97 ≤ b.toNat) && decide (b.toNat ≤ 122)) || (decide (48 ≤ b.toNat) && decide (b.toNat ≤ 57))) || b.toNat == 45
def labelOk (l : List UInt8) : Bool := !(l == [] || (hasPrefix l [45] || hasSuffix l [45])) && l.all lowMinus
def hostOk (s : List UInt8) : Bool := decide (1 ≤ s.length) && decide (s.length ≤ 60) && (splitC 46 s).all labelOk
/-- The rest of a label: whether it is at its beginning. -/
def labP (first : Bool) (h : List UInt8) : Bool := !(first && (h == [] || h.head? == some 45)) && !(h.getLast? == some 45) && h.all lowMinus
theorem labelOk_P (l : List UInt8) : labelOk l = labP true l := by
  unfold labelOk labP hasPrefix hasSuffix
  have e1 : ([45] : List UInt8).isPrefixOf l = (l.head? == some 45) := by
    cases l with
    | nil => rfl
    | cons b l => rw [Bool.eq_iff_iff]; simp [List.isPrefixOf]; exact eq_comm
  have e2 : ([45] : List UInt8).isSuffixOf l = (l.getLast? == some 45) := by
    rw [Bool.eq_iff_iff, List.isSuffixOf_iff_suffix]
    simp only [beq_iff_eq]
    constructor
    · rintro ⟨t, rfl⟩; simp
    · intro h
      obtain ⟨t, rfl⟩ := List.getLast?_eq_some_iff.1 h
      exact ⟨t, rfl⟩
  rw [e1, e2]
  cases (l == []) <;> cases (l.head? == some 45) <;> cases (l.getLast? == some 45) <;> simp
def okc (first last : Bool) (c : UInt8) : Bool := (lowMinus c || c == 46) && !((c == 46 || c == 45) && (first || last))
def lastOf : List UInt8 → Bool
  | [] => true
  | c :: _ => c == 46
def okF : Bool → List UInt8 → Bool
  | _, [] => true
  | first, c :: l => okc first (lastOf l) c && okF (c == 46) l
theorem okF_split : ∀ (s : List UInt8) (first : Bool), (first = true → s ≠ []) → okF first s = (labP first ((splitC 46 s).headD []) && (splitC 46 s).tail.all labelOk)
  | [], first, h => by
    cases first with
    | true => exact absurd rfl (h rfl)
    | false => rfl
  | c :: l, first, _ => by
    obtain ⟨h', t', e⟩ := splitC_ne 46 l
    by_cases hc : c = 46
    · subst hc
      rw [okF, splitC, if_pos rfl, e]
      have hlow : lowMinus 46 = false := by decide
      have h46 : ((46 : UInt8) == 46) = true := rfl
      simp only [List.headD_cons, List.tail_cons, List.all_cons, h46]
      cases l with
      | nil =>
        rw [splitC] at e
        injection e with e1 e2
        subst e1; subst e2
        simp [okc, lastOf, okF, labelOk]
      | cons d l2 =>
        have ih := okF_split (d :: l2) true (fun _ => by simp)
        rw [e] at ih
        simp only [List.headD_cons, List.tail_cons] at ih
        rw [ih, labelOk_P]
        by_cases hd : d = 46
        · subst hd
          rw [splitC, if_pos rfl] at e
          injection e with e1 e2
          subst e1
          simp [labP]
        · have : lastOf (d :: l2) = false := by simp [lastOf, hd]
          rw [this]
          cases first <;> simp [okc, labP]
    · have h46 : (c == 46) = false := by simpa using hc
      rw [okF, h46, splitC, if_neg hc, e]
      simp only [List.headD_cons, List.tail_cons]
      have ih := okF_split l false (fun h => by cases h)
      rw [e] at ih
      simp only [List.headD_cons, List.tail_cons] at ih
      rw [ih]
      have hl : lastOf l = (h' == []) := by
        cases l with
        | nil => rw [splitC] at e; injection e with e1 e2; subst e1; rfl
        | cons d l2 =>
          rw [splitC] at e
          by_cases hd : d = 46
          · rw [if_pos hd] at e; injection e with e1 e2; subst e1; simp [lastOf, hd]
          · rw [if_neg hd] at e
            obtain ⟨h2, t2, e3⟩ := splitC_ne 46 l2
            rw [e3] at e
            injection e with e1 e2
            subst e1
            simp [lastOf, hd]
      rw [hl]
      unfold labP okc
      rw [h46]
      generalize t'.all labelOk = r
      cases h' with
      | nil =>
        have e1 : (([] : List UInt8) == []) = true := rfl
        have e2 : (([c] : List UInt8) == []) = false := rfl
        have e3 : (([c] : List UInt8).head? == some 45) = (c == 45) := rfl
        have e4 : (([c] : List UInt8).getLast? == some 45) = (c == 45) := rfl
        have e5 : ([c] : List UInt8).all lowMinus = lowMinus c := by simp
        have e6 : (([] : List UInt8).getLast? == some 45) = false := rfl
        have e7 : (([] : List UInt8).all lowMinus) = true := rfl
        simp only [e1, e2, e3, e4, e5, e6, e7]
        generalize lowMinus c = p
        generalize (c == 45) = q
        cases first <;> cases p <;> cases q <;> cases r <;> rfl
      | cons d h2 =>
        have e1 : ((d :: h2) == []) = false := rfl
        have e2 : ((c :: d :: h2) == []) = false := rfl
        have e3 : ((c :: d :: h2).head? == some 45) = (c == 45) := rfl
        have e4 : (c :: d :: h2).getLast? = (d :: h2).getLast? := by simp
        have e5 : (c :: d :: h2).all lowMinus = (lowMinus c && (d :: h2).all lowMinus) := rfl
        simp only [e1, e2, e3, e4, e5]
        generalize lowMinus c = p
        generalize (c == 45) = q
        generalize ((d :: h2).getLast? == some 45) = u
        generalize (d :: h2).all lowMinus = v
        cases first <;> cases p <;> cases q <;> cases r <;> cases u <;> cases v <;> rfl
theorem hostOk_F (s : List UInt8) : hostOk s = (decide (1 ≤ s.length) && decide (s.length ≤ 60) && okF true s) := by
  unfold hostOk
  cases s with
  | nil => rfl
  | cons b l =>
    have h := okF_split (b :: l) true (fun _ => by simp)
    obtain ⟨h', t', e⟩ := splitC_ne 46 (b :: l)
    rw [e] at h ⊢
    simp only [List.headD_cons, List.tail_cons] at h
    rw [h, List.all_cons, labelOk_P]
theorem okF_bytes : ∀ {s : List UInt8} {first : Bool}, okF first s = true → ∀ b ∈ s, b ≠ 58 ∧ b ≠ 47
  | [], _, _, b, hb => by cases hb
  | c :: l, first, h, b, hb => by
    rw [okF, Bool.and_eq_true] at h
    rcases List.mem_cons.1 hb with rfl | hb
    · have h1 := h.1
      unfold okc at h1
      rw [Bool.and_eq_true] at h1
      constructor
      · rintro rfl; exact absurd h1.1 (by decide)
      · rintro rfl; exact absurd h1.1 (by decide)
    · exact okF_bytes h.2 b hb
theorem hostOk_bytes {s : List UInt8} (h : hostOk s = true) : ∀ b ∈ s, b ≠ 58 ∧ b ≠ 47 := by
  rw [hostOk_F] at h
  simp only [Bool.and_eq_true] at h
  exact okF_bytes h.2

/-! ### Numbers -/
def digV : List UInt8 → Nat → Option Nat
  | [], a => some a
  | c :: l, a => if 48 ≤ c.toNat ∧ c.toNat ≤ 57 then digV l (10 * a + (c.toNat - 48)) else none
theorem digV_app : ∀ (x y : List UInt8) (a : Nat), digV (x ++ y) a = (digV x a).bind (digV y)
  | [], y, a => rfl
  | c :: x, y, a => by
    rw [List.cons_append, digV, digV]
    split
    · exact digV_app x y _
    · rfl
theorem dig_toNat {u : Nat} (h : u < 10) : (UInt8.ofNat (48 + u)).toNat = 48 + u := by
  rw [UInt8.toNat_ofNat']; omega
theorem digV_dec : ∀ (u : Nat), digV (decDigits u) 0 = some u := by
  intro u
  induction u using Nat.strongRecOn with
  | _ u ih =>
    by_cases h : u < 10
    · rw [decDigits_one h, digV, dig_toNat h, if_pos (by omega)]
      show some _ = _
      congr 1; omega
    · rw [decDigits, dif_neg h, digV_app, ih (u / 10) (by omega)]
      show digV [UInt8.ofNat (48 + u % 10)] (u / 10) = _
      rw [digV, dig_toNat (Nat.mod_lt _ (by decide)), if_pos (by omega)]
      show some _ = _
      congr 1; omega
theorem parse_digV : ∀ (l : List UInt8) (a : Nat), a < 10 ^ 17 / 10 ^ l.length → l.length ≤ 10 → ∀ u, digV l a = some u → parseUint10 a l = .ok u
  | [], a, _, _, u, h => by injection h with h; subst h; rfl
  | c :: l, a, ha, hl, u, h => by
    rw [digV] at h
    split at h
    · rename_i hd
      rw [parseUint10, if_pos hd]
      rw [List.length_cons] at ha hl
      have hp : 10 ^ (l.length + 1) = 10 * 10 ^ l.length := by rw [Nat.pow_succ, Nat.mul_comm]
      have h0 : 0 < 10 ^ l.length := Nat.pow_pos (by decide)
      have ha' : (10 * a + (c.toNat - 48)) < 10 ^ 17 / 10 ^ l.length := by
        rw [hp, Nat.mul_comm, ← Nat.div_div_eq_div_mul] at ha
        omega
      have hle : 10 ^ 17 / 10 ^ l.length ≤ 10 ^ 17 := Nat.div_le_self _ _
      have e17 : 10 ^ 17 = 100000000000000000 := by decide
      rw [e17] at ha' hle
      rw [if_neg (by omega), if_neg (by omega)]
      have := parse_digV l (10 * a + (c.toNat - 48)) (by rw [e17]; exact ha') (by omega) u h
      rwa [Nat.mul_comm] at this
    · cases h
theorem dec_len5 {u : Nat} (h : u ≤ 99999) : (decDigits u).length ≤ 5 := by
  rw [decDigits_length]
  have : nDigits u ≤ 5 := by
    by_cases h1 : u < 10
    · rw [nDigits_small h1]; omega
    · rw [nDigits_big h1]
      by_cases h2 : u / 10 < 10
      · rw [nDigits_small h2]; omega
      · rw [nDigits_big h2]
        by_cases h3 : u / 10 / 10 < 10
        · rw [nDigits_small h3]; omega
        · rw [nDigits_big h3]
          by_cases h4 : u / 10 / 10 / 10 < 10
          · rw [nDigits_small h4]; omega
          · rw [nDigits_big h4, nDigits_small (by omega)]; omega
  exact this
theorem digV_digits : ∀ {l : List UInt8} {a u : Nat}, digV l a = some u → ∀ c ∈ l, 48 ≤ c.toNat ∧ c.toNat ≤ 57
  | [], _, _, _, c, hc => by cases hc
  | b :: l, a, u, h, c, hc => by
    rw [digV] at h
    split at h
    · rename_i hd
      rcases List.mem_cons.1 hc with rfl | hc
      · exact hd
      · exact digV_digits h c hc
    · cases h
theorem itoa_nat (u : Nat) : itoa (u : Int) = decDigits u := itoa_nonneg u
theorem dec_ne (u : Nat) : decDigits u ≠ [] := fun h => by
  have := decDigits_length u
  rw [h] at this
  have := nDigits_pos u
  simp at *
  omega
theorem atoi_dec {u : Nat} (h : u ≤ 99999) : atoiAll (decDigits u) = .ok u := by
  have hd := digV_dec u
  have hl := dec_len5 h
  have hp := parse_digV (decDigits u) 0 (by
    have : 10 ^ (decDigits u).length ≤ 10 ^ 5 := Nat.pow_le_pow_right (by decide) hl
    have h0 : 0 < 10 ^ (decDigits u).length := Nat.pow_pos (by decide)
    exact Nat.div_pos (Nat.le_trans this (by decide)) h0) (by omega) u hd
  have hdig := digV_digits hd
  cases e : decDigits u with
  | nil => exact absurd e (dec_ne u)
  | cons c r =>
    rw [e] at hp hdig
    have hc := hdig c List.mem_cons_self
    unfold atoiAll
    have n1 : ¬ (c.toNat = 43 ∨ c.toNat = 45) := by omega
    have n2 : ¬ c.toNat = 45 := by omega
    simp only [if_neg n1, parseMag, reduceCtorEq, if_false, hp]
    rw [if_neg (by omega), if_neg (by omega), if_neg n2]

end Go.Gp

/- Strings put together. -/
namespace Go.Gp
open Go.RowKit
set_option linter.unusedVariables false
set_option linter.unusedSimpArgs false
section
variable {E : Env} {ro : Option Nat} {n : Nat} {K : Kont} {t : Slots} {H : List AObj} {ops : Array Oper} {o : Oper} {rest : List Oper} {Kc : Slots → Prop}
theorem P1.addS {ty yt : Nat} {x y : Operand} {a b : List UInt8} (hop : o.op = .binOp .add ty x y yt) (hx : evalA E.G t x = .str a) (hy : evalA E.G t y = .str b) (hl : a.length + b.length ≤ 1000000000) : P1 E n H H o t (.str (a ++ b)) :=
  .still (fun cc e => by rw [hop] at e; cases e) (fun c ac hH ho s => by
    have hxr := eval_rel ho s x
    rw [hx] at hxr
    have hyr := eval_rel ho s y
    rw [hy] at hyr
    generalize hv : ac.eval x = v at hxr
    generalize hv2 : ac.eval y = v2 at hyr
    cases hxr
    cases hyr
    refine ⟨.string ⟨(a ++ b).toArray⟩, ?_, .str⟩
    simp only [execOp, hop, hv, hv2]
    rw [Sem.run_bind, Sem.run_bind, eqGuard_plain (by simp) (by simp)]
    simp only [Result.andThen_ok]
    have h1 : ¬ (((⟨a.toArray⟩ : ByteArray).size + (⟨b.toArray⟩ : ByteArray).size : Nat) : Int) > IntKind.i64.max := by
      have e1 : (⟨a.toArray⟩ : ByteArray).size = a.length := by show a.toArray.size = _; simp
      have e2 : (⟨b.toArray⟩ : ByteArray).size = b.length := by show b.toArray.size = _; simp
      have e3 : IntKind.i64.max = 9223372036854775807 := rfl
      rw [e1, e2, e3]; omega
    have h2 : (⟨a.toArray⟩ : ByteArray) ++ ⟨b.toArray⟩ = ⟨(a ++ b).toArray⟩ := by
      apply ByteArray.ext
      rw [ByteArray.data_append]
      simp
    simp only [binOp, Op.stringOp, if_neg h1, h2]
    rfl)
theorem WpOps.addS {d ty yt : Nat} {x y : Operand} {a b : List UInt8} (hw : wantedA ops t o = some true) (hd : o.dst = some d) (hdn : Nat.blt d n = true) (hop : o.op = .binOp .add ty x y yt)
    (hx : evalA E.G t x = .str a) (hy : evalA E.G t y = .str b) (hl : a.length + b.length ≤ 1000000000) (hk : WpOps E ro n ops rest K ((d, .str (a ++ b)) :: t) H) : WpOps E ro n ops (o :: rest) K t H :=
  .p1 hw hd hdn (.addS hop hx hy hl) hk
theorem LexA.addS {d ty yt : Nat} {x y : Operand} {a b : List UInt8} (hw : wantedA ops t o = some true) (hd : o.dst = some d) (hdn : Nat.blt d n = true) (hop : o.op = .binOp .add ty x y yt)
    (hx : evalA E.G t x = .str a) (hy : evalA E.G t y = .str b) (hl : a.length + b.length ≤ 1000000000) (hk : LexA E ro n H ops Kc rest ((d, .str (a ++ b)) :: t)) : LexA E ro n H ops Kc (o :: rest) t :=
  .p1 hw hd hdn (.addS hop ((evalA_cut (by rw [hop]; simp [Op.operands])).trans hx) ((evalA_cut (by rw [hop]; simp [Op.operands])).trans hy) hl) hk
/-- A part of a string. -/
theorem P1.sliceS {ty : Nat} {x : Operand} {lo hi : Option Operand} {s : List UInt8} (p q : Nat) (ys : List UInt8) (hop : o.op = .slice ty x lo hi none) (hs : (lookT E.T ty).map TI.d = some .str) (hx : evalA E.G t x = .str s)
    (hlo : BndOk E.G t 0 p lo) (hhi : BndOk E.G t s.length q hi) (hpq : p ≤ q) (hq : q ≤ s.length) (hy : (s.take q).drop p = ys) : P1 E n H H o t (.str ys) :=
  .still (fun cc e => by rw [hop] at e; cases e) (fun c a hH ho sr => by
    obtain ⟨j, u, hj, hu, hok⟩ := lookT_d hs
    have hok' : u = .string := hok
    subst hok'
    have hxr := eval_rel ho sr x
    rw [hx] at hxr
    generalize hv : a.eval x = v at hxr
    cases hxr
    have hsz : (⟨s.toArray⟩ : ByteArray).size = s.length := by show s.toArray.size = _; simp
    have hrhi : (match hi.map a.eval with | some v => Instr.sliceBound v s.length .sliceAlen | none => pure s.length : Sem Nat).run E.P c.w = .ok q c.w := by
      cases hi with
      | none =>
        have : q = s.length := hhi
        simp [this]
      | some y =>
        obtain ⟨k, i, h1, h2, h3⟩ := hhi
        have hyr := eval_rel ho sr y
        rw [h1] at hyr
        generalize hv2 : a.eval y = v2 at hyr
        cases hyr
        have : 0 ≤ i ∧ i ≤ (s.length : Int) := ⟨h2, by omega⟩
        simp [hv2, Instr.sliceBound, asIntOf, this, h3]
    have hrlo : (match lo.map a.eval with | some v => Instr.sliceBound v q .sliceB | none => pure 0 : Sem Nat).run E.P c.w = .ok p c.w := by
      cases lo with
      | none =>
        have : p = 0 := hlo
        simp [this]
      | some y =>
        obtain ⟨k, i, h1, h2, h3⟩ := hlo
        have hyr := eval_rel ho sr y
        rw [h1] at hyr
        generalize hv2 : a.eval y = v2 at hyr
        cases hyr
        have : 0 ≤ i ∧ i ≤ (q : Int) := ⟨h2, by omega⟩
        simp [hv2, Instr.sliceBound, asIntOf, this, h3]
    have hb : (Instr.sliceBounds false s.length s.length (lo.map a.eval) (hi.map a.eval) none).run E.P c.w = .ok (p, q, s.length) c.w := by
      unfold Instr.sliceBounds
      cases hi with
      | none =>
        simp only [Option.map_none] at hrhi ⊢
        cases lo with
        | none =>
          simp only [Option.map_none] at hrlo ⊢
          simp at hrhi hrlo ⊢
          exact ⟨hrlo, hrhi⟩
        | some y =>
          simp only [Option.map_some] at hrlo ⊢
          simp at hrhi
          subst hrhi
          simp [hrlo]
      | some y' =>
        simp only [Option.map_some] at hrhi ⊢
        cases lo with
        | none =>
          simp only [Option.map_none] at hrlo ⊢
          simp at hrlo
          subst hrlo
          simp [hrhi]
        | some y =>
          simp only [Option.map_some] at hrlo ⊢
          simp [hrhi, hrlo]
    refine ⟨.string ⟨ys.toArray⟩, ?_, .str⟩
    have he : (⟨s.toArray⟩ : ByteArray).extract p q = ⟨ys.toArray⟩ := by
      rw [← hy]
      apply ByteArray.ext
      rw [ByteArray.data_extract]
      simp [List.drop_take]
    simp only [execOp, hop, Option.map_none]
    simp only [Instr.sliceAt, Sem.run_bind, run_underlying hu, Result.andThen_ok, hv, Instr.slice, hsz, hb, Option.isSome_none, Bool.false_eq_true, if_false, he]
    rfl)
end
end Go.Gp

/- Results and heaps said otherwise. -/
namespace Go.Gp
open Go.RowKit
set_option linter.unusedVariables false
set_option linter.unusedSimpArgs false

theorem Sub.map {m j m' j' : Nat} (h : m + j = m' + j') : Sub (.map m j) (.map m' j') := fun c x hr => by
  cases hr with
  | map hb => exact .map (h ▸ hb)
theorem Sub.func {g : FuncId} {us vs : List AV} (h : SubL us vs) : Sub (.func g us) (.func g vs) := fun c x hr => by
  cases hr with
  | func ws hl hr =>
    have := SubL.rel h ⟨hl, hr⟩
    exact .func ws this.1 this.2

theorem WpOps.heap {E : Env} {ro : Option Nat} {n : Nat} {K : Kont} {t : Slots} {H H' : List AObj} {ops : Array Oper} {l : List Oper} (h : H = H') (hw : WpOps E ro n ops l K t H') : WpOps E ro n ops l K t H := by subst h; exact hw
section
variable {E : Env} {ro : Option Nat} {n : Nat} {K : Kont} {t : Slots} {H H' H1 L X : List AObj} {ops : Array Oper} {o : Oper} {l rest : List Oper} {d : Nat} {av : AV}
theorem P1.lookupV {ty m j : Nat} {x ix : Operand} {ki ei : TI} {es : List AEntry} {clk : Nat} {k : AV} (hop : o.op = .lookup ty x ix false) (hs : mapOf E.T ty = some (ki, ei)) (hx : evalA E.G t x = .map m j)
    (hH : X[m + j]? = some (.map es clk)) (hi : evalA E.G t ix = k) (hk : keyK ki.d k = true) (hes : ∀ e ∈ es, keyK ki.d e.1 = true) (hv : (lookM ei es k).1 = av) : P1 E n X X o t av := by
  have h := P1.lookup (E := E) (n := n) (t := t) false hop hs hx hH hi hk hes
  rw [cond_false, hv] at h
  exact h
end

end Go.Gp

/- What is equal to itself. -/
namespace Go.Gp
open Go.RowKit
set_option linter.unusedVariables false
set_option linter.unusedSimpArgs false
section
variable {E : Env} {ro : Option Nat} {n : Nat} {K : Kont} {t : Slots} {H : List AObj} {ops : Array Oper} {o : Oper} {rest : List Oper} {Kc : Slots → Prop}
/-- What is equal to itself. -/
theorem WpOps.eqT {L : List AObj} {d ty yt : Nat} {x y : Operand} (b : Bool) (hw : wantedA ops t o = some true) (hd : o.dst = some d) (hdn : Nat.blt d n = true) (hop : o.op = .binOp .eql ty x y yt) (hv : valA E t L o.op = some (.bool b)) (hb : baseN E H.length t o.op = H.length) (he : b = true)
    (hk : WpOps E ro n ops rest K ((d, .bool true) :: t) (H ++ L)) : WpOps E ro n ops (o :: rest) K t (H ++ L) := by subst he; exact .op _ hw hd hdn hv hb hk
theorem LexA.eqT {L : List AObj} {d ty yt : Nat} {x y : Operand} (b : Bool) (hw : wantedA ops t o = some true) (hd : o.dst = some d) (hdn : Nat.blt d n = true) (hop : o.op = .binOp .eql ty x y yt) (hv : valA E t L o.op = some (.bool b)) (hb : baseN E H.length t o.op = H.length) (he : b = true)
    (hk : LexA E ro n (H ++ L) ops Kc rest ((d, .bool true) :: t)) : LexA E ro n (H ++ L) ops Kc (o :: rest) t := by subst he; exact .op _ hw hd hdn hv hb hk

theorem beq1_self : ∀ {a : AV}, (∃ v, a = .int .u8 v) → beq1 a a = true := fun h => by obtain ⟨v, rfl⟩ := h; simp [beq1]
theorem eqAL_self : ∀ {as : List AV}, (∀ a ∈ as, ∃ v, a = .int .u8 v) → eqAL as as = true
  | [], _ => rfl
  | a :: as, h => by
    rw [eqAL, beq1_self (h a List.mem_cons_self), eqAL_self (fun x hx => h x (List.mem_cons_of_mem _ hx))]; rfl
end
end Go.Gp
