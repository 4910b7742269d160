/- Part of a proof: GhP10, GhQ20, GhB6 -/
import Derived.Test.YtlmjiblfmhaicaaGreatDoorK14
import Derived.Test.YtlmjiblfmhaicaaGreatDoorK17
import Derived.Test.YtlmjiblfmhaicaaGreatDoorK18

set_option linter.unusedSectionVars false

/- Locators: what the program's Parse and the reference's compute, in plain words, and that it is the same. -/
namespace Go.Gp.Tryz
variable [Inhabited MaxLenT]
open Go.Proofs Go.Lib
set_option linter.unusedVariables false
set_option linter.unusedSimpArgs false
set_option linter.unusedSectionVars false

theorem splitL_c (s : List UInt8) (c : UInt8) : splitL s [c] = splitC c s := by
  unfold splitL
  rw [splitB_data]
  have h1 : (⟨([c] : List UInt8).toArray⟩ : ByteArray).data.toList = [c] := by simp
  have h2 : (⟨s.toArray⟩ : ByteArray).data.toList = s := by simp
  rw [h1, h2, ← splitK_c, ← count_one]

structure Loc where
  sch : Int
  host : List UInt8
  port : Int
  parts : List (List UInt8)
  dir : Bool
def Loc.cells (l : Loc) : List AV := [.int .u8 l.sch, .str l.host, .int .i64 l.port, .sl .no 1 (strRows l.parts), .bool l.dir]
def Loc.zero : Loc := ⟨0, [], 0, [], false⟩
def rsyncS : List UInt8 := [114, 115, 121, 110, 99]
def httpsS : List UInt8 := [104, 116, 116, 112, 115]
def markS : List UInt8 := [58, 47, 47]
def preS (k : Int) : List UInt8 := (if k = 1 then rsyncS else httpsS) ++ markS
def portS (p : Int) : List UInt8 := if p = 0 then [] else 58 :: itoa p
def endS (l : Loc) : List UInt8 := if l.dir = true ∧ l.parts ≠ [] then [47] else []
def wr (l : Loc) : List UInt8 := preS l.sch ++ (l.host ++ (portS l.port ++ (47 :: (join l.parts [47] ++ endS l))))
def goodLoc (l : Loc) : Bool := (decide (l.sch = 1) || decide (l.sch = 2)) && (hostOk l.host && (decide (0 ≤ l.port) && (decide (l.port ≤ 65535) && (!decide (l.port = usualP l.sch) && ((!decide (l.parts = []) || l.dir) && l.parts.all name)))))
def chkE (l : Loc) : Int := if 10 < l.parts.length then 4 else if goodLoc l = false then 8 else if 200 < (wr l).length then 4 else 0
structure OkLoc (l : Loc) : Prop where
  n10 : l.parts.length ≤ 10
  sch : l.sch = 1 ∨ l.sch = 2
  host : hostOk l.host = true
  p0 : 0 ≤ l.port
  p1 : l.port ≤ 65535
  some : l.parts ≠ [] ∨ l.dir = true
  names : ∀ p ∈ l.parts, name p = true
  len : (wr l).length ≤ 200
theorem chkE_ok {l : Loc} (h : chkE l = 0) : OkLoc l := by
  unfold chkE at h
  split at h
  · cases h
  · split at h
    · cases h
    · split at h
      · cases h
      · rename_i h1 h2 h3
        have h2 : goodLoc l = true := by simpa using h2
        unfold goodLoc at h2
        simp only [Bool.and_eq_true, Bool.or_eq_true, decide_eq_true_eq, Bool.not_eq_true', decide_eq_false_iff_not, List.all_eq_true] at h2
        obtain ⟨a1, a2, a3, a4, a5, a6, a7⟩ := h2
        exact ⟨by omega, a1, a2, a3, a4, a6, a7, by omega⟩
theorem name_bytes {s : List UInt8} (h : name s = true) : s ≠ [] ∧ (47 : UInt8) ∉ s := by
  unfold name nameOk at h
  simp only [Bool.and_eq_true, decide_eq_true_eq, List.drop_zero, List.all_eq_true] at h
  refine ⟨fun e => ?_, fun hm => ?_⟩
  · have := h.1.1.1.1
    rw [e] at this; simp at this
  · exact absurd (h.2 47 hm) (by decide)
theorem host_none {s : List UInt8} (h : hostOk s = true) : (58 : UInt8) ∉ s ∧ (47 : UInt8) ∉ s :=
  ⟨fun hm => (hostOk_bytes h 58 hm).1 rfl, fun hm => (hostOk_bytes h 47 hm).2 rfl⟩
theorem join_two (p q : List UInt8) (ps : List (List UInt8)) : join (p :: q :: ps) [47] = p ++ (47 :: join (q :: ps) [47]) := by
  rw [join_cons, join_cons]
  simp [joinTail]
theorem join_len : ∀ ps : List (List UInt8), ps.length ≤ (join ps [47]).length + 1
  | [] => by simp
  | [p] => by simp
  | p :: q :: ps => by
    have ih := join_len (q :: ps)
    rw [join_two]
    simp only [List.length_append, List.length_cons] at ih ⊢
    omega

/-! ### The program's -/
def schOf (h : List UInt8) : Int := if h = rsyncS then 1 else if h = httpsS then 2 else 0
def lpF : Nat → List UInt8 → List (List UInt8) → Bool → List (List UInt8) × Bool
  | 0, _, ps, d => (ps, d)
  | k + 1, r, ps, d => if r = [] then (ps, d) else lpF k (cut r [47]).2.1 (ps ++ [(cut r [47]).1]) ((cut r [47]).2.2 && decide ((cut r [47]).2.1 = []))
theorem lpF_nil : ∀ (k : Nat) (ps : List (List UInt8)) (d : Bool), lpF k [] ps d = (ps, d)
  | 0, _, _ => rfl
  | k + 1, ps, d => by rw [lpF, if_pos rfl]
theorem lpF_join : ∀ (ps : List (List UInt8)) (k : Nat) (acc : List (List UInt8)) (d e : Bool), ps ≠ [] → (∀ p ∈ ps, name p = true) → ps.length ≤ k →
    lpF k (join ps [47] ++ (if e then [47] else [])) acc d = (acc ++ ps, e)
  | [], _, _, _, _, h, _, _ => absurd rfl h
  | [p], 0, _, _, _, _, _, h => by simp at h
  | [p], k + 1, acc, d, e, _, hn, _ => by
    obtain ⟨h1, h2⟩ := name_bytes (hn p List.mem_cons_self)
    rw [join_one, lpF, if_neg (by simp [h1])]
    cases e with
    | true =>
      rw [if_pos rfl, cut_at h2, lpF_nil]
      rfl
    | false =>
      rw [if_neg (by decide), List.append_nil, cut_none h2, lpF_nil]
      rfl
  | p :: q :: ps, 0, _, _, _, _, _, h => by simp at h
  | p :: q :: ps, k + 1, acc, d, e, _, hn, hk => by
    obtain ⟨h1, h2⟩ := name_bytes (hn p List.mem_cons_self)
    obtain ⟨h3, _⟩ := name_bytes (hn q (by simp))
    rw [join_two, lpF, if_neg (by simp), List.append_assoc, List.cons_append, cut_at h2]
    have hj : join (q :: ps) [47] ++ (if e then [47] else []) ≠ [] := by rw [join_cons]; simp [h3]
    simp only [hj, decide_false, Bool.and_false]
    rw [lpF_join (q :: ps) k (acc ++ [p]) false e (by simp) (fun x hx => hn x (List.mem_cons_of_mem _ hx)) (by simpa using hk)]
    simp
def mkP (a : List UInt8) (b : List UInt8 × List UInt8 × Bool) (c : List UInt8) (n : Int) : Loc :=
  ⟨schOf a, c, n, (lpF 11 b.2.1 [] false).1, (lpF 11 b.2.1 [] false).2 || decide ((lpF 11 b.2.1 [] false).1 = [])⟩
def portP (c : List UInt8 × List UInt8 × Bool) : Option Int :=
  if c.2.2 = true then match atoiAll c.2.1 with
    | .ok n => if n < 1 then none else some n
    | _ => none
  else some 0
def candP (s : List UInt8) : Option Loc :=
  if 200 < s.length then none else if (cut s markS).2.2 = false ∨ schOf (cut s markS).1 = 0 then none else
  (portP (cut (cut (cut s markS).2.1 [47]).1 [58])).map fun n => mkP (cut s markS).1 (cut (cut s markS).2.1 [47]) (cut (cut (cut s markS).2.1 [47]).1 [58]).1 n
theorem port_digits {p : Int} (h0 : 0 ≤ p) (h1 : p ≤ 65535) (hp : p ≠ 0) : portS p = 58 :: decDigits p.toNat := by
  rw [portS, if_neg hp]
  have : p = ((p.toNat : Nat) : Int) := by omega
  rw [this, itoa_nat]
  rfl
theorem dec_none (u : Nat) : (58 : UInt8) ∉ decDigits u ∧ (47 : UInt8) ∉ decDigits u := by
  have h := digV_digits (digV_dec u)
  exact ⟨fun hm => absurd (h 58 hm) (by decide), fun hm => absurd (h 47 hm) (by decide)⟩
theorem portS_none {p : Int} (h0 : 0 ≤ p) (h1 : p ≤ 65535) : (47 : UInt8) ∉ portS p := by
  by_cases hp : p = 0
  · subst hp; simp [portS]
  · rw [port_digits h0 h1 hp]
    intro hm
    rcases List.mem_cons.1 hm with h | h
    · exact absurd h (by decide)
    · exact (dec_none _).2 h
theorem portP_port {h : List UInt8} {p : Int} (hh : (58 : UInt8) ∉ h) (h0 : 0 ≤ p) (h1 : p ≤ 65535) : (cut (h ++ portS p) [58]).1 = h ∧ portP (cut (h ++ portS p) [58]) = some p := by
  by_cases hp : p = 0
  · subst hp
    rw [portS, if_pos rfl, List.append_nil, cut_none hh]
    exact ⟨rfl, rfl⟩
  · rw [port_digits h0 h1 hp, cut_at hh]
    refine ⟨rfl, ?_⟩
    unfold portP
    rw [if_pos rfl]
    have hu : p.toNat ≤ 99999 := by omega
    have e := atoi_dec hu
    show (match atoiAll (decDigits p.toNat) with | .ok n => if n < 1 then none else some n | _ => none) = _
    rw [e]
    show (if ((p.toNat : Nat) : Int) < 1 then none else some ((p.toNat : Nat) : Int)) = _
    rw [if_neg (by omega)]
    congr 1; omega
theorem candP_ok {l : Loc} (h : chkE l = 0) : candP (wr l) = some l := by
  have o := chkE_ok h
  obtain ⟨hc1, hc2⟩ := host_none o.host
  have hpre : cut (wr l) markS = (if l.sch = 1 then rsyncS else httpsS, l.host ++ (portS l.port ++ (47 :: (join l.parts [47] ++ endS l))), true) := by
    rw [wr, preS, List.append_assoc]
    refine cut_app rfl ?_
    split <;> decide
  have hsch : schOf (if l.sch = 1 then rsyncS else httpsS) = l.sch := by
    rcases o.sch with e | e
    · rw [e]; rfl
    · rw [e, if_neg (by decide), schOf, if_neg (by decide), if_pos rfl]
  have hat : cut (l.host ++ (portS l.port ++ (47 :: (join l.parts [47] ++ endS l)))) [47] = (l.host ++ portS l.port, join l.parts [47] ++ endS l, true) := by
    rw [← List.append_assoc]
    refine cut_at fun hm => ?_
    rcases List.mem_append.1 hm with hm | hm
    · exact hc2 hm
    · exact portS_none o.p0 o.p1 hm
  obtain ⟨hn, hp⟩ := portP_port hc1 o.p0 o.p1
  have hsch0 : l.sch ≠ 0 := by rcases o.sch with e | e <;> rw [e] <;> decide
  have hlp : lpF 11 (join l.parts [47] ++ endS l) [] false = (l.parts, l.dir && decide (l.parts ≠ [])) := by
    by_cases hp : l.parts = []
    · rw [endS, hp, if_neg (by simp)]
      show lpF 11 [] [] false = _
      rw [lpF_nil]; simp
    · have := lpF_join l.parts 11 [] false l.dir hp o.names (by have := o.n10; omega)
      rw [endS]
      simp only [hp, ne_eq, not_false_eq_true, and_true]
      rw [this]; simp
  rw [candP, if_neg (by have := o.len; omega), hpre]
  simp only [hsch]
  rw [if_neg (by simp [hsch0]), hat]
  simp only
  rw [hn, hp]
  simp only [Option.map_some, mkP, hsch, hlp]
  congr 1
  have hd : ((l.dir && decide (l.parts ≠ [])) || decide (l.parts = [])) = l.dir := by
    rcases o.some with e | e
    · simp [e]
    · rw [e]; by_cases hp : l.parts = [] <;> simp [hp]
  rw [hd]

/-! ### The reference's -/
def slashB : UInt8 → Bool := fun c => c == 47 || c == 47
def rlF : Nat → List UInt8 → List (List UInt8) → Bool → List (List UInt8) × Bool
  | 0, _, ps, d => (ps, d)
  | _ + 1, [], ps, d => (ps, d)
  | k + 1, _ :: r, ps, d => if r = [] then rlF k [] ps true else rlF k (r.drop (r.findIdx slashB)) (ps ++ [r.take (r.findIdx slashB)]) d
theorem rlF_nil : ∀ (k : Nat) (ps : List (List UInt8)) (d : Bool), rlF k [] ps d = (ps, d)
  | 0, _, _ => rfl
  | k + 1, _, _ => rfl
theorem find_none {f : UInt8 → Bool} : ∀ {p : List UInt8}, (∀ c ∈ p, f c = false) → ∀ q, (p ++ q).findIdx f = p.length + q.findIdx f
  | [], _, q => by simp
  | c :: p, h, q => by
    rw [List.cons_append, List.findIdx_cons, h c List.mem_cons_self, cond_false, find_none (fun x hx => h x (List.mem_cons_of_mem _ hx)) q, List.length_cons]
    omega
theorem slash_none {p : List UInt8} (h : (47 : UInt8) ∉ p) : ∀ c ∈ p, slashB c = false := fun c hc => by
  unfold slashB
  have : c ≠ 47 := fun e => h (by rw [← e]; exact hc)
  simp [this]
theorem rlF_join : ∀ (ps : List (List UInt8)) (k : Nat) (acc : List (List UInt8)) (e : Bool), ps ≠ [] → (∀ p ∈ ps, name p = true) → ps.length + 1 ≤ k →
    rlF k (47 :: (join ps [47] ++ (if e then [47] else []))) acc false = (acc ++ ps, e)
  | [], _, _, _, h, _, _ => absurd rfl h
  | [p], 0, _, _, _, _, h => by simp at h
  | [p], k + 1, acc, e, _, hn, hk => by
    obtain ⟨h1, h2⟩ := name_bytes (hn p List.mem_cons_self)
    rw [join_one, rlF, if_neg (by simp [h1]), find_none (slash_none h2)]
    cases e with
    | true =>
      have : ([47] : List UInt8).findIdx slashB = 0 := rfl
      simp only [if_true, this, Nat.add_zero, List.drop_left, List.take_left]
      obtain ⟨k', rfl⟩ : ∃ k', k = k' + 1 := ⟨k - 1, by simp at hk; omega⟩
      rw [rlF, if_pos rfl, rlF_nil]
    | false =>
      simp [rlF_nil]
  | p :: q :: ps, 0, _, _, _, _, h => by simp at h
  | p :: q :: ps, k + 1, acc, e, _, hn, hk => by
    obtain ⟨h1, h2⟩ := name_bytes (hn p List.mem_cons_self)
    rw [join_two, List.append_assoc, List.cons_append, rlF, if_neg (by simp), find_none (slash_none h2)]
    have h0 : (47 :: (join (q :: ps) [47] ++ if e = true then [47] else [])).findIdx slashB = 0 := by rw [List.findIdx_cons]; rfl
    rw [h0, Nat.add_zero, List.drop_left, List.take_left, rlF_join (q :: ps) k (acc ++ [p]) e (by simp) (fun x hx => hn x (List.mem_cons_of_mem _ hx)) (by simp at hk ⊢; omega)]
    simp
def schR (s : List UInt8) : Int := if s.take 8 = preS 1 then 1 else if s.take 8 = preS 2 then 2 else 0
def finR (s h : List UInt8) (port : Int) (k : Nat) : Loc := ⟨schR s, h, port, (rlF s.length (s.drop k) [] false).1, (rlF s.length (s.drop k) [] false).2⟩
def candR (s : List UInt8) : Option Loc :=
  if s.length < 9 ∨ 200 < s.length then none else if schR s = 0 then none else
  if s[untilN s 58 47 8]? = some 58 then
    if untilN s 47 47 (untilN s 58 47 8) - untilN s 58 47 8 > 6 then none else
    (digV ((s.take (untilN s 47 47 (untilN s 58 47 8))).drop (untilN s 58 47 8 + 1)) 0).map fun v => finR s ((s.take (untilN s 58 47 8)).drop 8) (v : Nat) (untilN s 47 47 (untilN s 58 47 8))
  else some (finR s ((s.take (untilN s 58 47 8)).drop 8) 0 (untilN s 58 47 8))
theorem preS_len (k : Int) : (preS k).length = 8 := by unfold preS; split <;> rfl
theorem until_app {a b : UInt8} {x y z : List UInt8} (hy : ∀ c ∈ y, (c == a || c == b) = false) (hz : z = [] ∨ ∃ c t, z = c :: t ∧ (c == a || c == b) = true) : untilN (x ++ (y ++ z)) a b x.length = x.length + y.length := by
  rw [untilN, List.drop_left, find_none hy]
  rcases hz with rfl | ⟨c, t, rfl, hc⟩
  · simp
  · rw [List.findIdx_cons, hc]; simp
theorem candR_ok {l : Loc} (h : chkE l = 0) : candR (wr l) = some l := by
  have o := chkE_ok h
  obtain ⟨hc1, hc2⟩ := host_none o.host
  have hb := hostOk_bytes o.host
  have hlen : (wr l).length = 8 + (l.host.length + ((portS l.port).length + (1 + (join l.parts [47] ++ endS l).length))) := by
    rw [wr, List.length_append, List.length_append, List.length_append, List.length_cons, preS_len]; omega
  have hpos : 1 ≤ l.host.length := by
    have := o.host
    unfold hostOk at this
    simp only [Bool.and_eq_true, decide_eq_true_eq] at this
    exact this.1.1
  have h200 := o.len
  have htake : (wr l).take 8 = preS l.sch := by rw [wr, List.take_left' (preS_len _)]
  have hsch : schR (wr l) = l.sch := by
    rw [schR, htake]
    rcases o.sch with e | e
    · rw [e]; rfl
    · rw [e]; rfl
  have hsch0 : l.sch ≠ 0 := by rcases o.sch with e | e <;> rw [e] <;> decide
  have hu : untilN (wr l) 58 47 8 = 8 + l.host.length := by
    have := until_app (a := 58) (b := 47) (x := preS l.sch) (y := l.host) (z := portS l.port ++ (47 :: (join l.parts [47] ++ endS l))) (fun c hc => by
      have := hb c hc; simp [this.1, this.2]) (by
      right
      by_cases hp : l.port = 0
      · rw [hp, portS, if_pos rfl]; exact ⟨47, _, rfl, rfl⟩
      · rw [port_digits o.p0 o.p1 hp]; exact ⟨58, _, rfl, rfl⟩)
    rw [preS_len] at this
    exact this
  have hhost : ((wr l).take (8 + l.host.length)).drop 8 = l.host := by
    rw [wr, ← List.append_assoc, List.take_left' (by rw [List.length_append, preS_len]), List.drop_left' (preS_len _)]
  have hrl : ∀ k, (wr l).drop k = 47 :: (join l.parts [47] ++ endS l) → ∀ p : Int, p = l.port → finR (wr l) l.host p k = l := by
    intro k hk p hpp
    have : rlF (wr l).length (47 :: (join l.parts [47] ++ endS l)) [] false = (l.parts, l.dir) := by
      by_cases hp : l.parts = []
      · have hd : l.dir = true := by
          rcases o.some with e | e
          · exact absurd hp e
          · exact e
        obtain ⟨n, hn⟩ : ∃ n, (wr l).length = n + 1 := ⟨(wr l).length - 1, by omega⟩
        have hz : join ([] : List (List UInt8)) [47] ++ [] = [] := rfl
        rw [endS, hp, if_neg (by simp), hn, hz, rlF, if_pos rfl, rlF_nil, hd]
      · have := rlF_join l.parts (wr l).length [] l.dir hp o.names (by have := join_len l.parts; rw [hlen, List.length_append]; omega)
        rw [endS]
        simp only [hp, ne_eq, not_false_eq_true, and_true]
        rw [this]; simp
    rw [finR, hk, this, hsch, hpp]
  rw [candR, if_neg (by omega), hsch, if_neg hsch0, hu, hhost]
  by_cases hp : l.port = 0
  · have hd : (wr l).drop (8 + l.host.length) = 47 :: (join l.parts [47] ++ endS l) := by
      rw [wr, ← List.append_assoc, List.drop_left' (by rw [List.length_append, preS_len]), hp, portS, if_pos rfl]; rfl
    have hg : (wr l)[8 + l.host.length]? = some 47 := by
      have := congrArg (·[0]?) hd
      simpa using this
    rw [hg, if_neg (by decide), hrl _ hd 0 hp.symm]
  · have hd : (wr l).drop (8 + l.host.length) = 58 :: (decDigits l.port.toNat ++ (47 :: (join l.parts [47] ++ endS l))) := by
      rw [wr, ← List.append_assoc, List.drop_left' (by rw [List.length_append, preS_len]), port_digits o.p0 o.p1 hp]; rfl
    have hg : (wr l)[8 + l.host.length]? = some 58 := by
      have := congrArg (·[0]?) hd
      simpa using this
    have hu2 : untilN (wr l) 47 47 (8 + l.host.length) = 8 + l.host.length + (1 + (decDigits l.port.toNat).length) := by
      rw [untilN, hd]
      show _ + ((58 :: decDigits l.port.toNat) ++ (47 :: (join l.parts [47] ++ endS l))).findIdx _ = _
      have := find_none (p := 58 :: decDigits l.port.toNat) (slash_none (fun hm => by
        rcases List.mem_cons.1 hm with h | h
        · exact absurd h (by decide)
        · exact (dec_none _).2 h)) (47 :: (join l.parts [47] ++ endS l))
      unfold slashB at this
      rw [this, List.findIdx_cons]
      simp; omega
    have hl5 := dec_len5 (show l.port.toNat ≤ 99999 by have := o.p1; omega)
    have hdig : ((wr l).take (8 + l.host.length + (1 + (decDigits l.port.toNat).length))).drop (8 + l.host.length + 1) = decDigits l.port.toNat := by
      have e1 : ((wr l).take (8 + l.host.length + (1 + (decDigits l.port.toNat).length))).drop (8 + l.host.length + 1) = (((wr l).drop (8 + l.host.length)).take (1 + (decDigits l.port.toNat).length)).drop 1 := by
        rw [List.drop_take, List.drop_take, List.drop_drop]
        congr 1; omega
      rw [e1, hd, Nat.add_comm 1, List.take_succ_cons, List.drop_succ_cons, List.drop_zero, List.take_left]
    have hd2 : (wr l).drop (8 + l.host.length + (1 + (decDigits l.port.toNat).length)) = 47 :: (join l.parts [47] ++ endS l) := by
      rw [← List.drop_drop, hd, Nat.add_comm 1, List.drop_succ_cons, List.drop_left]
    rw [hg, if_pos rfl, hu2, if_neg (by omega), hdig, digV_dec]
    simp only [Option.map_some]
    rw [hrl _ hd2 _ (by have := o.p0; omega)]

def finE (c : Option Loc) (s : List UInt8) : Loc × Int := match c with
  | none => (Loc.zero, 12)
  | some l => if chkE l = 0 ∧ wr l = s then (l, 0) else (Loc.zero, 12)
def parseE (s : List UInt8) : Loc × Int := finE (candP s) s
theorem parse_same (s : List UInt8) : finE (candR s) s = parseE s := by
  by_cases h : ∃ l, chkE l = 0 ∧ wr l = s
  · obtain ⟨l, h1, rfl⟩ := h
    rw [parseE, candP_ok h1, candR_ok h1]
  · have hn : ∀ c, finE c s = (Loc.zero, 12) := fun c => by
      cases c with
      | none => rfl
      | some l => exact if_neg fun hc => h ⟨l, hc⟩
    rw [parseE, hn, hn]
theorem parseE_spec (s : List UInt8) : (parseE s).2 = 0 ∧ chkE (parseE s).1 = 0 ∧ wr (parseE s).1 = s ∨ parseE s = (Loc.zero, 12) := by
  unfold parseE finE
  split
  · exact .inr rfl
  · split
    · rename_i h; exact .inl ⟨rfl, h.1, h.2⟩
    · exact .inr rfl
end Go.Gp.Tryz

/- Hosts: the walks. -/
namespace Go.Gp.Tryz
variable [Inhabited MaxLenT]
open Go.Proofs
set_option linter.unusedVariables false
set_option linter.unusedSimpArgs false
set_option linter.unusedSectionVars false
set_option maxHeartbeats 4000000

theorem splitC_len (c : UInt8) : ∀ s, (splitC c s).length ≤ s.length + 1
  | [] => by simp [splitC]
  | b :: l => by
    have ih := splitC_len c l
    obtain ⟨h, t, e⟩ := splitC_ne c l
    rw [splitC]
    split
    · simp; exact ih
    · rw [e] at ih ⊢; simp at ih ⊢; omega
theorem splitC_mem (c : UInt8) : ∀ s, ∀ l ∈ splitC c s, l.length ≤ s.length
  | [], l, h => by simp [splitC] at h; subst h; simp
  | b :: r, l, h => by
    obtain ⟨h', t, e⟩ := splitC_ne c r
    rw [splitC] at h
    split at h
    · rcases List.mem_cons.1 h with rfl | h
      · simp
      · have := splitC_mem c r l h; simp; omega
    · rw [e] at h
      rcases List.mem_cons.1 h with rfl | h
      · have := splitC_mem c r h' (by rw [e]; exact List.mem_cons_self)
        simp; exact this
      · have := splitC_mem c r l (by rw [e]; exact List.mem_cons_of_mem _ h)
        simp; omega
theorem class_low (b : UInt8) : ((classOf b.toNat != 1) && (classOf b.toNat != 3)) = !lowMinus b := by
  have h : lowMinus b = (((decide (97 ≤ b.toNat) && decide (b.toNat ≤ 122)) || (decide (48 ≤ b.toNat) && decide (b.toNat ≤ 57))) || b.toNat == 45) := rfl
  rw [h]
  generalize b.toNat = n
  rw [Bool.eq_iff_iff]
  unfold classOf
  simp
  repeat' split
  all_goals simp <;> omega
theorem all_step {α : Type} {p : α → Bool} {l : List α} {i : Nat} (h : i < l.length) : (l.drop i).all p = (p l[i] && (l.drop (i + 1)).all p) := by
  rw [List.drop_eq_getElem_cons h, List.all_cons]
theorem all_end {α : Type} {p : α → Bool} {l : List α} {i : Nat} (h : l.length ≤ i) : (l.drop i).all p = true := by
  rw [List.drop_eq_nil_of_le h]; rfl
theorem host_A (s : List UInt8) (H : List AObj) (hs : s.length ≤ 1000000) : CallsA E 104 [.str s] H (Is H (.bool (hostOk s))) := by
  refine .enter Tryz.func104 rfl rfl rfl 50 Tryz.ntmps104 (Nat.le_of_ble_eq_true rfl) ?_
  by_cases hl : 1 ≤ s.length ∧ s.length ≤ 60
  · have d1 : decide (((s.length : Nat) : Int) < 1) = false := decide_eq_false (by omega)
    have d2 : decide (((s.length : Nat) : Int) > 60) = false := decide_eq_false (by omega)
    have hS : ∀ X, CallsA E 127 [.str s, .str [46]] X (Is X (.sl .no 1 (strRows (splitC 46 s)))) := fun X => by have := split_A s [46] X hs (by decide); rwa [splitL_c] at this
    have hR : hostOk s = ((splitC 46 s).drop 0).all labelOk := by
      unfold hostOk; rw [decide_eq_true hl.1, decide_eq_true hl.2]; rfl
    have hn1 := splitC_len 46 s
    have hmem := splitC_mem 46 s
    generalize splitC 46 s = L at *
    generalize hostOk s = R at *
    have hLl := strRows_len L
    repeat' first
      | (exact absurd ‹_ = true› (by rw [d1]; decide))
      | (exact absurd ‹_ = true› (by rw [d2]; decide))
      | refine WpA.seq ?_
      | refine WpA.region ?_
      | refine WpOps.op _ rfl rfl rfl rfl rfl ?_
      | (refine WpOps.call rfl rfl rfl rfl rfl (by exact hS _) ?_; rintro _ _ ⟨rfl, rfl⟩)
      | refine WpOps.gsplit _ rfl rfl rfl (fun h => ?_) (fun h => ?_)
      | refine WpA.block ?_
      | refine WpOps.nil ?_
      | refine WpA.skip ?_
      | refine WpA.cond _ rfl (fun h => ?_) (fun h => ?_)
    refine WpA.loopS (α := Nat) (fun i => [(16, .sl .no 1 (strRows L)), (17, .int .i64 (L.length : Nat)), (18, .int .i64 (i : Nat))]) (fun _ => H ++ []) (fun i => i ≤ L.length ∧ R = (L.drop i).all labelOk) (fun i => L.length - i) 0 ⟨Nat.zero_le _, hR⟩ ⟨rfl, by rw [← hLl]; rfl, rfl, trivial⟩ rfl (fun i hi => ?_)
    obtain ⟨hi1, hi2⟩ := hi
    by_cases hlt : i < L.length
    · have hd : decide (((i : Nat) : Int) < ((L.length : Nat) : Int)) = true := decide_eq_true (by omega)
      have hg := strRows_at hlt
      rw [all_step hlt] at hi2
      have hlab := hmem L[i] (List.getElem_mem hlt)
      obtain ⟨lab, hlabe⟩ : ∃ lab, L[i] = lab := ⟨_, rfl⟩
      rw [hlabe] at hg hi2 hlab
      have hP := fun X => hasPrefix_A lab [45] X
      have hQ := fun X => hasSuffix_A lab [45] X (by omega)
      have hlo : labelOk lab = (!(lab == [] || (Lib.hasPrefix lab [45] || Lib.hasSuffix lab [45])) && lab.all lowMinus) := rfl
      generalize Lib.hasPrefix lab [45] = b1 at *
      generalize Lib.hasSuffix lab [45] = b2 at *
      have hi0 : ((lab == []) || (b1 || b2)) = true → R = false := fun h => by rw [hi2, hlo, h]; rfl
      repeat' first
        | refine WpA.condT (congrArg AV.bool hd) ?_
        | (refine WpOps.elem _ rfl rfl rfl rfl rfl rfl rfl rfl rfl (Int.natCast_nonneg i) hg ?_)
        | refine WpA.seq ?_
        | refine WpA.region ?_
        | refine WpOps.op _ rfl rfl rfl rfl rfl ?_
        | refine WpOps.skip rfl rfl rfl ?_
        | (refine WpOps.call rfl rfl rfl rfl rfl (by exact hP _) ?_; rintro _ _ ⟨rfl, rfl⟩)
        | (refine WpOps.call rfl rfl rfl rfl rfl (by exact hQ _) ?_; rintro _ _ ⟨rfl, rfl⟩)
        | refine WpOps.gsplit _ rfl rfl rfl (fun h => ?_) (fun h => ?_)
        | refine WpA.block ?_
        | refine WpOps.nil ?_
        | refine WpA.ret ?_
        | refine WpA.skip ?_
        | refine WpA.condT rfl ?_
        | refine WpA.cond _ rfl (fun h => ?_) (fun h => ?_)
      all_goals try (rw [hi0 (by clear hi2 hlo hmem hlab hg; simp_all)]; exact retK.ok rfl rfl rfl .bool)
      have hbb : ((lab == []) || (b1 || b2)) = false := by simp_all
      rw [hlo, hbb, Bool.not_false, Bool.true_and] at hi2
      clear hi0 hP hQ hlo hbb hmem
      refine WpA.loopS (α := Nat) (fun j => [(4, .str lab), (16, .sl .no 1 (strRows L)), (17, .int .i64 (L.length : Nat)), (18, .int .i64 (i : Nat)), (33, .int .i64 (lab.length : Nat)), (34, .int .i64 (j : Nat))]) (fun _ => H ++ []) (fun j => j ≤ lab.length ∧ R = ((lab.drop j).all lowMinus && (L.drop (i + 1)).all labelOk)) (fun j => lab.length - j) 0 ⟨Nat.zero_le _, hi2⟩ ⟨rfl, rfl, rfl, rfl, rfl, rfl, trivial⟩ rfl (fun j hj => ?_)
      obtain ⟨hj1, hj2⟩ := hj
      by_cases hjl : j < lab.length
      · have hd2 : decide (((j : Nat) : Int) < ((lab.length : Nat) : Int)) = true := decide_eq_true (by omega)
        rw [all_step hjl] at hj2
        have hcl := class_low lab[j]
        have hcg := class_get lab[j]
        have hlt256 := lab[j].toNat_lt
        obtain ⟨b, hb⟩ : ∃ b, lab[j] = b := ⟨_, rfl⟩
        rw [hb] at hj2 hcl hcg hlt256
        repeat' first
          | refine WpA.condT (congrArg AV.bool hd2) ?_
          | (refine LexA.indexS lab[j] rfl rfl rfl rfl rfl rfl rfl (Int.natCast_nonneg j) (by simp) ?_; rw [hb])
          | (refine LexA.indexA (.int .u8 (classOf b.toNat)) rfl rfl rfl rfl rfl rfl rfl (Int.natCast_nonneg _) (by omega) (by show classCells[((b.toNat : Int)).toNat * 1]? = _; rw [Int.toNat_natCast, Nat.mul_one]; exact hcg) ?_)
          | refine WpA.seq ?_
          | refine WpA.region ?_
          | refine WpOps.op _ rfl rfl rfl rfl rfl ?_
          | refine WpOps.skip rfl rfl rfl ?_
          | refine WpOps.gsplit _ rfl rfl rfl (fun h => ?_) (fun h => ?_)
          | refine WpA.block ?_
          | refine WpOps.nil ?_
          | refine WpA.ret ?_
          | refine WpA.skip ?_
          | refine WpA.condF rfl ?_
          | refine WpA.cond _ rfl (fun h => ?_) (fun h => ?_)
          | refine WpA.draw (by kernel_rfl) ?_
          | refine LexA.op _ rfl rfl rfl rfl rfl ?_
          | refine LexA.call rfl rfl rfl rfl rfl (by exact class_A _) ?_
          | refine LexA.nil ?_
        · have hlm : lowMinus b = false := by
            clear hj2 hcg hi2 hR
            simp_all
          have hRf : R = false := by rw [hj2, hlm]; rfl
          rw [hRf]
          exact retK.ok rfl rfl rfl .bool
        · have hlm : lowMinus b = true := by
            clear hj2 hcg hi2 hR
            simp_all
          exact ⟨j + 1, ⟨hjl, by rw [hj2, hlm]; rfl⟩, by omega, ⟨rfl, rfl, rfl, rfl, rfl, congrArg (AV.int .i64) (wrap64 (by omega) (by omega)), trivial⟩, rfl⟩
        · have hlm : lowMinus b = true := by
            clear hj2 hcg hi2 hR
            simp_all
          exact ⟨j + 1, ⟨hjl, by rw [hj2, hlm]; rfl⟩, by omega, ⟨rfl, rfl, rfl, rfl, rfl, congrArg (AV.int .i64) (wrap64 (by omega) (by omega)), trivial⟩, rfl⟩
      · have hd2 : decide (((j : Nat) : Int) < ((lab.length : Nat) : Int)) = false := decide_eq_false (by omega)
        rw [all_end (by omega), Bool.true_and] at hj2
        repeat' first
          | refine WpA.condF (congrArg AV.bool hd2) ?_
          | refine WpA.seq ?_
          | refine WpA.region ?_
          | refine WpOps.op _ rfl rfl rfl rfl rfl ?_
          | refine WpA.exit ?_
          | refine WpOps.nil ?_
        exact ⟨i + 1, ⟨hlt, hj2⟩, by omega, ⟨rfl, rfl, congrArg (AV.int .i64) (wrap64 (by omega) (by omega)), trivial⟩, rfl⟩
    · have hd : decide (((i : Nat) : Int) < ((L.length : Nat) : Int)) = false := decide_eq_false (by omega)
      rw [hi2, all_end (by omega)]
      repeat' first
        | refine WpA.condF (congrArg AV.bool hd) ?_
        | refine WpA.seq ?_
        | refine WpA.region ?_
        | refine WpOps.op _ rfl rfl rfl rfl rfl ?_
        | refine WpA.exit ?_
        | refine WpOps.nil ?_
        | refine WpA.ret ?_
      exact retK.ok rfl rfl rfl .bool
  · have hR : hostOk s = false := by
      unfold hostOk
      rw [Bool.and_eq_false_iff]
      left
      rw [Bool.and_eq_false_iff]
      rcases Nat.lt_or_ge s.length 1 with h | h
      · left; exact decide_eq_false (by omega)
      · right; exact decide_eq_false (by omega)
    rw [hR]
    have hc : (decide (((s.length : Nat) : Int) < 1)) = true ∨ (decide (((s.length : Nat) : Int) > 60)) = true := by
      rcases Nat.lt_or_ge s.length 1 with h | h
      · left; exact decide_eq_true (by omega)
      · right; exact decide_eq_true (by omega)
    repeat' first
      | refine WpA.seq ?_
      | refine WpA.region ?_
      | refine WpOps.op _ rfl rfl rfl rfl rfl ?_
      | refine WpOps.skip rfl rfl rfl ?_
      | refine WpOps.gsplit _ rfl rfl rfl (fun h => ?_) (fun h => ?_)
      | refine WpOps.nil ?_
      | refine WpA.ret ?_
      | refine WpA.skip ?_
      | refine WpA.condT rfl ?_
      | refine WpA.cond _ rfl (fun h => ?_) (fun h => ?_)
    all_goals first
      | exact retK.ok rfl rfl rfl .bool
      | (exfalso; simp at *; omega)
end Go.Gp.Tryz

/- strconv.Itoa, as a contract of the layer. -/
namespace Go.Gp.Tryz
variable [Inhabited MaxLenT]
open Go.Proofs Go.RowKit
set_option linter.unusedVariables false
set_option linter.unusedSimpArgs false
set_option linter.unusedSectionVars false
set_option maxHeartbeats 4000000

theorem pow10_cells : (E.G 3) = some (Lib.pow10Tab.map fun z => AV.int .u64 z) := by kernel_rfl
theorem addr_plain (b i : Nat) : (⟨b, 0, none⟩ : Addr).add i = ⟨b, i, none⟩ := by
  unfold Addr.add
  by_cases h0 : i = 0
  · rw [if_pos h0, h0]
  · rw [if_neg h0]; simp
theorem tab_ok {c : Cfg} {g : Nat} {zs : List Int} {k : IntKind} (ho : Ok E.G c) (hg : E.G g = some (zs.map fun z => AV.int k z)) (h2 : 2 ≤ zs.length) :
    ∃ e fr, c.w.heap[g]? = some (.cells (zs.map fun z => Value.int k z).toArray e fr) := by
  have h := ho.glob g _ hg
  obtain ⟨arr, e, fr, b1, b2, _⟩ := ho.gblk g _ hg (by rw [List.length_map]; exact h2)
  rw [List.length_map] at b2
  refine ⟨e, fr, ?_⟩
  rw [b1]
  congr 2
  cases h with
  | rp vs hs hf hr =>
    apply Array.ext_getElem?
    intro i
    rcases Nat.lt_or_ge i zs.length with hi | hi
    · have f1 := (hf i (by rw [List.length_map]; exact hi)).1
      rw [addr_plain] at f1
      have f2 := hr i (.int k zs[i]) (by rw [List.getElem?_map, List.getElem?_eq_getElem hi]; rfl)
      generalize vs i = v at *
      cases f2
      unfold World.cell? at f1
      simp only [b1] at f1
      have f3 : arr[i]? = some (.int k zs[i]) := by simpa using f1
      rw [f3, List.getElem?_toArray, List.getElem?_map, List.getElem?_eq_getElem hi]; rfl
    · rw [Array.getElem?_eq_none (by omega), Array.getElem?_eq_none (by simp; omega)]
theorem itoa_A (n : Int) (H : List AObj) (h0 : -9223372036854775808 ≤ n) (h1 : n ≤ 9223372036854775807) : CallsA E 107 [.int .i64 n] H (Is H (.str (Lib.itoa n))) := by
  refine .lib Tryz.func107 rfl rfl fun c vs hH ho hr => ?_
  have hv : vs = [.int .i64 n] := by
    match vs, hr with
    | [v], h => have h0 := h.head; cases h0; rfl
    | [], h => have := h.1; simp at this
    | _ :: _ :: _, h => have := h.1; simp at this
  subst hv
  obtain ⟨e, fr, ht⟩ := tab_ok ho pow10_cells (by decide)
  have hT : Lib.TabIs Tryz.prog c.w "internal/strconv.uint64pow10" .u64 Lib.pow10Tab := by
    unfold Lib.TabIs World.var?
    have hg : Tryz.prog.globalNamed "internal/strconv.uint64pow10" = some 3 := by kernel_rfl
    rw [hg]
    simp only [Option.bind_some, ht]
  refine (Tryz.strconv_Itoa n h0 h1 c.w hT).mono ?_
  rintro e w' ⟨rfl, k, os, rfl⟩
  refine ⟨?_, _, rfl, .str⟩
  exact ⟨rfl, rfl, rfl, by show c.w.heap.size ≤ (c.w.heap ++ os).size; rw [Array.size_append]; omega, fun i hi => by
    show (c.w.heap ++ os)[i]? = _
    rw [Array.getElem?_append_left hi]⟩
end Go.Gp.Tryz
