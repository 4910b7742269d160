/- Part of a proof: GdW2, GdW3, GdW4, GdW5, GdW6 -/
import Derived.Test.YtmacdhglhafldaaDoorK18

/- The manifest's checks: names. -/
namespace Go.Gp.Tryd
open Go.Proofs
set_option linter.unusedVariables false
set_option linter.unusedSimpArgs false

def classOf (n : Nat) : Int :=
  if 97 ≤ n ∧ n ≤ 122 then 1 else if 65 ≤ n ∧ n ≤ 90 then 2 else if 48 ≤ n ∧ n ≤ 57 then 1 else if n = 45 then 3 else if n = 95 then 4 else if n = 46 then 5 else 0
def classCells : List AV := (List.range 256).map fun n => .int .u8 (classOf n)

theorem class_A (H : List AObj) : CallsA E 78 [] H (Is H (.agg classCells)) := by
  refine .enter Tryd.func78 rfl rfl rfl 2 Tryd.ntmps78 (Nat.le_of_ble_eq_true rfl) ?_
  refine WpA.seq ?_
  refine WpA.region ?_
  refine WpOps.alloc _ rfl rfl rfl rfl rfl rfl ?_
  refine WpOps.nil ?_
  refine WpA.seq ?_
  refine WpA.region ?_
  refine WpOps.build classCells rfl rfl rfl rfl (by kernel_rfl) ?_
  refine WpOps.store rfl rfl rfl rfl rfl rfl rfl (by kernel_rfl) (by kernel_rfl) (by kernel_rfl) ?_
  refine WpOps.nil ?_
  refine WpA.ret ?_
  refine retK.ok (show resL _ _ _ _ = some [.agg classCells] from ?_) rfl ?_ ?_
  · kernel_rfl
  · kernel_rfl
  · refine .agg fun e he => ?_
    obtain ⟨n, _, rfl⟩ := List.mem_map.1 he
    exact .int

theorem class_get (b : UInt8) : classCells[b.toNat]? = some (.int .u8 (classOf b.toNat)) := by
  have := b.toNat_lt
  rw [classCells, List.getElem?_map, List.getElem?_range (by omega)]
  rfl

theorem class_ok (b : UInt8) : (classOf b.toNat == 0) = !okName b := by
  have h : okName b = (((decide (97 ≤ b.toNat) && decide (b.toNat ≤ 122)) || (decide (48 ≤ b.toNat) && decide (b.toNat ≤ 57))) || (decide (65 ≤ b.toNat) && decide (b.toNat ≤ 90)) || b.toNat == 45 || b.toNat == 95 || b.toNat == 46) := rfl
  rw [h]
  generalize b.toNat = n
  rw [Bool.eq_iff_iff]
  unfold classOf
  simp
  repeat' split
  all_goals simp <;> omega

theorem Name_A (s : List UInt8) (H : List AObj) : CallsA E 56 [.str s] H (Is H (.bool (name s))) := by
  refine .enter Tryd.func56 rfl rfl rfl 32 Tryd.ntmps56 (Nat.le_of_ble_eq_true rfl) ?_
  repeat' first
    | refine WpA.seq ?_
    | refine WpA.region ?_
    | refine WpOps.op _ rfl rfl rfl rfl rfl ?_
    | refine WpOps.skip rfl rfl rfl ?_
    | refine WpOps.gsplit _ rfl rfl rfl (fun h => ?_) (fun h => ?_)
    | refine WpA.block ?_
    | refine WpOps.nil ?_
    | refine WpA.ret ?_
    | refine WpA.skip ?_
    | refine WpA.condT rfl ?_
    | refine WpA.cond _ rfl (fun h => ?_) (fun h => ?_)
  · refine retK.ok rfl rfl (congrArg AV.bool ?_) .bool
    simp at *
    simp [name]; omega
  · refine retK.ok rfl rfl (congrArg AV.bool ?_) .bool
    simp at *
    simp [name]; omega
  · refine retK.ok rfl rfl (congrArg AV.bool ?_) .bool
    simp at *
    simp [name, *]
  · refine retK.ok rfl rfl (congrArg AV.bool ?_) .bool
    simp at *
    simp [name, *]
  · rename_i h1 h2 h3
    simp at h1 h2 h3 h
    refine WpA.loopS (α := Nat) (fun i => [(0, .str s), (21, .int .i64 s.length), (22, .int .i64 i)]) (fun _ => H ++ []) (fun i => i ≤ s.length ∧ nameOk s 0 = nameOk s i) (fun i => s.length - i) 0 ⟨Nat.zero_le _, rfl⟩ ⟨rfl, rfl, rfl, trivial⟩ rfl ?_
    rintro i ⟨hi, hn⟩
    repeat' first
      | refine WpA.seq ?_
      | refine WpA.region ?_
      | refine WpOps.op _ rfl rfl rfl rfl rfl ?_
      | refine WpA.block ?_
      | refine WpA.exit ?_
      | refine WpOps.nil ?_
      | refine WpA.ret ?_
      | refine WpA.skip ?_
      | refine WpA.cond _ rfl (fun h => ?_) (fun h => ?_)
      | refine WpA.draw (by kernel_rfl) ?_
      | refine LexA.op _ rfl rfl rfl rfl rfl ?_
      | refine LexA.call rfl rfl rfl rfl rfl (by exact class_A _) ?_
    · simp at h
      have hlt : i < s.length := h
      have hd := nameOk_step hlt
      refine LexA.indexS s[i] rfl rfl rfl rfl rfl rfl rfl (Int.natCast_nonneg i) (by simp) ?_
      refine LexA.indexA (.int .u8 (classOf s[i].toNat)) rfl rfl rfl rfl rfl rfl rfl (Int.natCast_nonneg _) ?_ ?_ ?_
      · have := s[i].toNat_lt; omega
      · show classCells[((s[i].toNat : Int)).toNat * 1]? = _
        rw [Int.toNat_natCast, Nat.mul_one]
        exact class_get _
      repeat' first
        | refine WpA.seq ?_
        | refine WpA.region ?_
        | refine WpOps.op _ rfl rfl rfl rfl rfl ?_
        | refine WpOps.nil ?_
        | refine WpA.ret ?_
        | refine WpA.skip ?_
        | refine WpA.cond _ rfl (fun h => ?_) (fun h => ?_)
        | refine LexA.op _ rfl rfl rfl rfl rfl ?_
        | refine LexA.nil ?_
      · have hc : okName s[i] = false := by have := class_ok s[i]; rw [h] at this; simpa using this.symm
        refine retK.ok rfl rfl (congrArg AV.bool ?_) .bool
        rw [name, hn, hd, hc]; simp
      · have hc : okName s[i] = true := by have := class_ok s[i]; rw [h] at this; simpa using this.symm
        refine ⟨i + 1, ⟨hlt, ?_⟩, by omega, ⟨rfl, rfl, congrArg (AV.int .i64) (wrap64 (by omega) (by omega)), trivial⟩, rfl⟩
        rw [hn, hd, hc]; simp
    · refine retK.ok rfl rfl (congrArg AV.bool ?_) .bool
      simp at h
      rw [name, hn, nameOk, List.drop_eq_nil_of_le (by omega)]
      simp; exact ⟨⟨⟨by omega, by omega⟩, h3⟩, by assumption⟩
end Go.Gp.Tryd

/- The manifest's checks: windows, files. -/
namespace Go.Gp.Tryd
open Go.Proofs
set_option linter.unusedVariables false
set_option linter.unusedSimpArgs false

def win (f t : Int) : Bool := isTime f && isTime t && decide (f ≤ t)
def winCode (f t : Int) : Int := if win f t then 0 else 8

theorem refTime_A (t : Int) (H : List AObj) : CallsA E 65 [.int .i64 t] H (Is H (.bool (isTime t))) := by
  refine .enter Tryd.func65 rfl rfl rfl 9 Tryd.ntmps65 (Nat.le_of_ble_eq_true rfl) ?_
  repeat' first
    | refine WpA.seq ?_
    | refine WpA.region ?_
    | refine WpOps.op _ rfl rfl rfl rfl rfl ?_
    | refine WpOps.skip rfl rfl rfl ?_
    | refine WpOps.gsplit _ rfl rfl rfl (fun h => ?_) (fun h => ?_)
    | refine WpOps.nil ?_
    | refine WpA.ret ?_
  all_goals (refine retK.ok rfl rfl (congrArg AV.bool ?_) .bool; simp [isTime] at h ⊢; omega)

theorem winCheck_A (f t : Int) (H : List AObj) : CallsA E 29 [.agg [.int .i64 f, .int .i64 t]] H (Is H (.int .i64 (winCode f t))) := by
  refine .enter Tryd.func29 rfl rfl rfl 20 Tryd.ntmps29 (Nat.le_of_ble_eq_true rfl) ?_
  repeat' first
    | refine WpA.seq ?_
    | refine WpA.region ?_
    | refine WpOps.op _ rfl rfl rfl rfl rfl ?_
    | refine WpOps.box _ rfl rfl rfl rfl rfl ?_
    | refine WpOps.skip rfl rfl rfl ?_
    | (refine WpOps.call rfl rfl rfl rfl rfl (by exact isTime_A _ _) ?_; rintro _ _ ⟨rfl, rfl⟩)
    | refine WpOps.gsplit _ rfl rfl rfl (fun h => ?_) (fun h => ?_)
    | refine WpOps.nil ?_
    | refine WpA.ret ?_
    | refine WpA.skip ?_
    | refine WpA.condT rfl ?_
    | refine WpA.cond _ rfl (fun h => ?_) (fun h => ?_)
  all_goals (refine retK.ok rfl rfl (congrArg (AV.int .i64) ?_) .int; (try simp at *); simp [winCode, win, *])

theorem refWinCheck_A (f t : Int) (H : List AObj) : CallsA E 33 [.agg [.int .i64 f, .int .i64 t]] H (Is H (.int .i64 (winCode f t))) := by
  refine .enter Tryd.func33 rfl rfl rfl 18 Tryd.ntmps33 (Nat.le_of_ble_eq_true rfl) ?_
  repeat' first
    | refine WpA.seq ?_
    | refine WpA.region ?_
    | refine WpOps.op _ rfl rfl rfl rfl rfl ?_
    | refine WpOps.box _ rfl rfl rfl rfl rfl ?_
    | refine WpOps.skip rfl rfl rfl ?_
    | (refine WpOps.call rfl rfl rfl rfl rfl (by exact refTime_A _ _) ?_; rintro _ _ ⟨rfl, rfl⟩)
    | refine WpOps.gsplit _ rfl rfl rfl (fun h => ?_) (fun h => ?_)
    | refine WpOps.nil ?_
    | refine WpA.ret ?_
    | refine WpA.skip ?_
    | refine WpA.condF rfl ?_
    | refine WpA.cond _ rfl (fun h => ?_) (fun h => ?_)
  all_goals (refine retK.ok rfl rfl (congrArg (AV.int .i64) ?_) .int; (try simp at *); simp [winCode, win, *])

structure File where
  name : List UInt8
  h : Nat → UInt8

def File.hash (f : File) : List AV := (List.range 32).map fun i => u8 (f.h i)
def File.row (f : File) : List AV := .str f.name :: (List.range 32).map fun i => u8 (f.h i)

structure Man where
  v : Int
  a : Int
  b : Int
  fs : List File

def rows (fs : List File) : List (List AV) := fs.map File.row
def Man.cells (m : Man) (tg : Tag) : List AV := [.int .u64 m.v, .int .i64 m.a, .int .i64 m.b, .sl tg 33 (rows m.fs)]
abbrev Man.av (m : Man) (tg : Tag) : AV := .agg [.int .u64 m.v, .int .i64 m.a, .int .i64 m.b, .sl tg 33 (rows m.fs)]

theorem rows_length (fs : List File) : (rows fs).length = fs.length := List.length_map _
theorem rows_get {fs : List File} {i : Nat} (h : i < fs.length) : (rows fs)[((i : Int)).toNat]? = some (fs[i]).row := by
  rw [rows, List.getElem?_map, Int.toNat_natCast, List.getElem?_eq_getElem h]
  rfl

def greatFrom (m : Man) (i : Nat) : Bool := (m.fs.drop i).any fun f => decide (200 < f.name.length)
def great (m : Man) : Bool := decide (220 < m.fs.length) || greatFrom m 0

theorem great_A (m : Man) (tg : Tag) (H : List AObj) (hb : m.fs.length ≤ 1000000000000000) : CallsA E 9 [m.av tg] H (Is H (.bool (great m))) := by
  refine .enter Tryd.func9 rfl rfl rfl 23 Tryd.ntmps9 (Nat.le_of_ble_eq_true rfl) ?_
  repeat' first
    | refine WpA.seq ?_
    | refine WpA.region ?_
    | refine WpOps.op _ rfl rfl rfl rfl rfl ?_
    | refine WpOps.box _ rfl rfl rfl rfl rfl ?_
    | refine WpA.block ?_
    | refine WpOps.nil ?_
    | refine WpA.ret ?_
    | refine WpA.skip ?_
    | refine WpA.cond _ rfl (fun h => ?_) (fun h => ?_)
  · refine retK.ok rfl rfl (congrArg AV.bool ?_) .bool
    simp [rows_length] at h
    simp [great]; omega
  · simp [rows_length] at h
    refine WpA.loopS (α := Nat) (fun i => [(1, .ptr H.length 0 0), (3, .int .i64 i)]) (fun _ => H ++ [.cells (m.cells tg)]) (fun i => i ≤ m.fs.length ∧ greatFrom m 0 = greatFrom m i) (fun i => m.fs.length - i) 0 ⟨Nat.zero_le _, rfl⟩ ⟨rfl, rfl, trivial⟩ rfl ?_
    rintro i ⟨hi, hn⟩
    repeat' first
      | refine WpA.seq ?_
      | refine WpA.region ?_
      | refine WpOps.op _ rfl rfl rfl rfl rfl ?_
      | refine WpA.block ?_
      | refine WpA.exit ?_
      | refine WpOps.nil ?_
      | refine WpA.ret ?_
      | refine WpA.skip ?_
      | refine WpA.cond _ rfl (fun h => ?_) (fun h => ?_)
    · simp [rows_length] at h
      refine WpOps.elem (m.fs[i]).row rfl rfl rfl rfl rfl rfl rfl rfl rfl (Int.natCast_nonneg i) (rows_get h) ?_
      have hd : greatFrom m i = (decide (200 < (m.fs[i]).name.length) || greatFrom m (i + 1)) := by
        unfold greatFrom
        rw [List.drop_eq_getElem_cons h, List.any_cons]
      repeat' first
        | refine WpA.seq ?_
        | refine WpA.region ?_
        | refine WpOps.op _ rfl rfl rfl rfl rfl ?_
        | refine WpOps.nil ?_
        | refine WpA.ret ?_
        | refine WpA.skip ?_
        | refine WpA.cond _ rfl (fun h => ?_) (fun h => ?_)
      · refine retK.ok rfl rfl (congrArg AV.bool ?_) .bool
        simp at h
        rw [great, hn, hd]
        simp
        exact .inr (.inl (by omega))
      · refine ⟨i + 1, ⟨by omega, ?_⟩, by omega, ⟨rfl, congrArg (AV.int .i64) (wrap64 (by omega) (by omega)), trivial⟩, rfl⟩
        simp at h
        rw [hn, hd]
        simp
        omega
    · refine retK.ok rfl rfl (congrArg AV.bool ?_) .bool
      simp [rows_length] at h
      rw [great, hn, greatFrom, List.drop_eq_nil_of_le (by omega)]
      simp; omega

theorem twin_A (m : Man) (tg : Tag) (H : List AObj) (hb : m.fs.length ≤ 1000) : CallsA E 11 [m.av tg] H (Is H (m.av .no)) := by
  refine .enter Tryd.func11 rfl rfl rfl 9 Tryd.ntmps11 (Nat.le_of_ble_eq_true rfl) ?_
  repeat' first
    | refine WpA.seq ?_
    | refine WpA.region ?_
    | refine WpOps.op _ rfl rfl rfl rfl rfl ?_
    | refine WpOps.box _ rfl rfl rfl rfl rfl ?_
    | refine WpOps.alloc _ rfl rfl rfl rfl rfl rfl ?_
    | refine WpOps.buildSlice [] rfl rfl rfl rfl rfl rfl rfl rfl rfl rfl rfl ?_
    | refine WpOps.nil ?_
  refine WpOps.appF rfl rfl rfl rfl rfl rfl rfl (fun k h => by cases h) rfl rfl rfl ?_ ?_
  · show (0 + (rows m.fs).length) * 48 ≤ _
    rw [rows_length]; omega
  repeat' first
    | refine WpA.seq ?_
    | refine WpA.region ?_
    | refine WpOps.op _ rfl rfl rfl rfl rfl ?_
    | refine WpOps.store rfl rfl rfl rfl rfl rfl rfl rfl rfl rfl ?_
    | refine WpOps.nil ?_
    | refine WpA.ret ?_
  refine retK.ok rfl rfl rfl (.agg ?_)
  intro e he
  simp at he
  rcases he with rfl | rfl | rfl | rfl
  · exact .int
  · exact .int
  · exact .int
  · refine .sl (fun _ _ e => by cases e) fun x hx e he => ?_
    obtain ⟨f, _, rfl⟩ := List.mem_map.1 hx
    rcases List.mem_cons.1 he with rfl | he
    · exact .str
    · obtain ⟨i, _, rfl⟩ := List.mem_map.1 he
      exact .int
end Go.Gp.Tryd

/- The manifest's checks: Check, both. -/
namespace Go.Gp.Tryd
open Go.Proofs
set_option linter.unusedVariables false
set_option linter.unusedSimpArgs false
set_option maxHeartbeats 4000000

abbrev lt (x y : List UInt8) : Bool := Op.bytesLess x y

def okAt (fs : List File) (i : Nat) : Bool :=
  match fs[i]? with
  | none => true
  | some f => name f.name && (match i with | 0 => true | k + 1 => match fs[k]? with | none => true | some g => lt g.name f.name)
def okUpTo (fs : List File) (i : Nat) : Bool := (List.range i).all (okAt fs)
theorem okUpTo_succ (fs : List File) (i : Nat) : okUpTo fs (i + 1) = (okUpTo fs i && okAt fs i) := by
  unfold okUpTo
  rw [List.range_succ, List.all_append]
  simp
def manOk (m : Man) : Bool := win m.a m.b && okUpTo m.fs m.fs.length
def check (m : Man) : Int := if 200 < m.fs.length then 4 else if manOk m then 0 else 8

theorem winCode_zero (a b : Int) : (winCode a b == 0) = win a b := by unfold winCode; cases win a b <;> rfl

theorem rows_bd (n : Nat) (fs : List File) : Bd n (.sl .no 33 (rows fs)) := by
  refine .sl (fun _ _ e => by cases e) fun x hx e he => ?_
  obtain ⟨f, _, rfl⟩ := List.mem_map.1 hx
  rcases List.mem_cons.1 he with rfl | he
  · exact .str
  · obtain ⟨i, _, rfl⟩ := List.mem_map.1 he
    exact .int

theorem Check_A (m : Man) (H : List AObj) (hb : m.fs.length ≤ 1000000000000000) : CallsA E 23 [m.av .no] H (Is H (.int .i64 (check m))) := by
  refine .enter Tryd.func23 rfl rfl rfl 47 Tryd.ntmps23 (Nat.le_of_ble_eq_true rfl) ?_
  repeat' first
    | refine WpA.seq ?_
    | refine WpA.region ?_
    | refine WpOps.op _ rfl rfl rfl rfl rfl ?_
    | refine WpOps.box _ rfl rfl rfl rfl rfl ?_
    | (refine WpOps.call rfl rfl rfl rfl rfl (by exact winCheck_A _ _ _) ?_; rintro _ _ ⟨rfl, rfl⟩)
    | refine WpA.block ?_
    | refine WpOps.nil ?_
    | refine WpA.ret ?_
    | refine WpA.skip ?_
    | refine WpA.cond _ rfl (fun h => ?_) (fun h => ?_)
  · refine retK.ok rfl rfl (congrArg (AV.int .i64) ?_) .int
    simp [rows_length] at h
    simp [check]; omega
  · simp [rows_length] at h
    refine WpA.loopS (α := Nat) (fun i => [(1, .ptr H.length 0 0), (3, .bool (win m.a m.b && okUpTo m.fs i)), (15, .sl .no 33 (rows m.fs)), (16, .int .i64 (rows m.fs).length), (17, .int .i64 i)]) (fun _ => H ++ [AObj.cells (m.cells .no)]) (fun i => i ≤ m.fs.length) (fun i => m.fs.length - i) 0 (Nat.zero_le _) ⟨rfl, ?_, rfl, rfl, rfl, trivial⟩ rfl ?_
    · show AV.bool (winCode m.a m.b == 0) = _
      rw [winCode_zero]
      simp [okUpTo]
    rintro i hi
    refine WpA.scope ?_
    repeat' first
      | refine WpA.seq ?_
      | refine WpA.region ?_
      | refine WpOps.op _ rfl rfl rfl rfl rfl ?_
      | refine WpA.block ?_
      | refine WpA.exit ?_
      | refine WpOps.nil ?_
      | refine WpA.skip ?_
      | refine WpA.cond _ rfl (fun h => ?_) (fun h => ?_)
    · simp [rows_length] at h
      have hlt : i < m.fs.length := h
      clear h
      have hget : m.fs[i]? = some m.fs[i] := List.getElem?_eq_getElem hlt
      have hi0 := rows_get hlt
      have hwi : IntKind.i64.wrap ((i : Int) + 1) = ((i + 1 : Nat) : Int) := wrap64 (by omega) (by omega)
      have hlast : ∀ (b : Bool) (x : AObj) (t : Slots), Agree [(1, .ptr H.length 0 0), (3, .bool b), (15, .sl .no 33 (rows m.fs)), (16, .int .i64 (rows m.fs).length), (17, .int .i64 ((i + 1 : Nat) : Int))] t → b = (win m.a m.b && okUpTo m.fs (i + 1)) →
          ∃ H1 L T, H ++ [AObj.cells (m.cells .no), x] = H1 ++ L ∧ H1.length = (H ++ [AObj.cells (m.cells .no)]).length ∧ TrOk (H ++ [AObj.cells (m.cells .no)]) H1 ∧ Agree T t ∧ BdS (H ++ [AObj.cells (m.cells .no)]).length T ∧ (∀ v, AX.normal = .panic v → Bd (H ++ [AObj.cells (m.cells .no)]).length v) ∧
            ∃ a', a' ≤ m.fs.length ∧ m.fs.length - a' < m.fs.length - i ∧ Agree [(1, .ptr H.length 0 0), (3, .bool (win m.a m.b && okUpTo m.fs a')), (15, .sl .no 33 (rows m.fs)), (16, .int .i64 (rows m.fs).length), (17, .int .i64 a')] T ∧ H1 = H ++ [AObj.cells (m.cells .no)] := by
        intro b x t hA hb
        refine ⟨H ++ [AObj.cells (m.cells .no)], [x], _, by simp, rfl, TrOk.refl _, hA, ⟨.ptr (by simp), .bool, rows_bd _ _, .int, .int, trivial⟩, (fun v h => by cases h), i + 1, hlt, by omega, ⟨rfl, ?_, rfl, rfl, rfl, trivial⟩, rfl⟩
        show AV.bool b = _
        rw [hb]
      rcases i with _ | k
      · have hok : okAt m.fs 0 = name m.fs[0].name := by unfold okAt; rw [hget]; simp
        repeat' first
          | refine WpA.region ?_
          | refine WpOps.op _ rfl rfl rfl rfl rfl ?_
          | refine WpOps.alloc _ rfl rfl rfl rfl rfl rfl ?_
          | refine WpOps.store rfl rfl rfl rfl rfl rfl rfl rfl rfl rfl ?_
          | refine WpOps.elem (m.fs[0]).row rfl rfl rfl rfl rfl rfl rfl rfl rfl (Int.natCast_nonneg _) (by exact hi0) ?_
          | refine WpOps.nil ?_
          | refine WpA.draw (by kernel_rfl) ?_
          | refine LexA.op _ rfl rfl rfl rfl rfl ?_
          | refine LexA.skip rfl rfl rfl ?_
          | refine LexA.call rfl rfl rfl rfl rfl (by exact Name_A _ _) ?_
          | refine LexA.gsplit _ rfl rfl rfl (fun h => ?_) (fun h => ?_)
          | refine LexA.nil ?_
        all_goals refine .inr (hlast _ _ _ (by exact ⟨rfl, rfl, rfl, rfl, congrArg (AV.int .i64) hwi, trivial⟩) ?_)
        all_goals (rw [okUpTo_succ, hok]; clear hlast; cases hq1 : win m.a m.b <;> cases hq2 : okUpTo m.fs 0 <;> simp_all)
      · have hget' : m.fs[k]? = some m.fs[k] := List.getElem?_eq_getElem (by omega)
        have hok : okAt m.fs (k + 1) = (name m.fs[k + 1].name && lt m.fs[k].name m.fs[k + 1].name) := by
          unfold okAt; rw [hget]; simp only [hget']
        have hwk : IntKind.i64.wrap (((k + 1 : Nat) : Int) - 1) = (k : Int) := by rw [wrap64 (by omega) (by omega)]; omega
        have hk0 : 0 ≤ IntKind.i64.wrap (((k + 1 : Nat) : Int) - 1) := by rw [hwk]; omega
        have hk1 : (rows m.fs)[(IntKind.i64.wrap (((k + 1 : Nat) : Int) - 1)).toNat]? = some (m.fs[k]).row := by rw [hwk]; exact rows_get _
        repeat' first
          | refine WpA.region ?_
          | refine WpOps.op _ rfl rfl rfl rfl rfl ?_
          | refine WpOps.alloc _ rfl rfl rfl rfl rfl rfl ?_
          | refine WpOps.store rfl rfl rfl rfl rfl rfl rfl rfl rfl rfl ?_
          | refine WpOps.elem (m.fs[k + 1]).row rfl rfl rfl rfl rfl rfl rfl rfl rfl (Int.natCast_nonneg _) (by exact hi0) ?_
          | refine LexA.elem (m.fs[k]).row rfl rfl rfl rfl rfl rfl rfl rfl rfl (by exact hk0) (by exact hk1) ?_
          | refine WpOps.nil ?_
          | refine WpA.draw (by kernel_rfl) ?_
          | refine LexA.op _ rfl rfl rfl rfl rfl ?_
          | refine LexA.skip rfl rfl rfl ?_
          | refine LexA.call rfl rfl rfl rfl rfl (by exact Name_A _ _) ?_
          | refine LexA.gsplit _ rfl rfl rfl (fun h => ?_) (fun h => ?_)
          | refine LexA.nil ?_
        all_goals refine .inr (hlast _ _ _ (by exact ⟨rfl, rfl, rfl, rfl, congrArg (AV.int .i64) hwi, trivial⟩) ?_)
        all_goals
          have hz : ((k : Int) + 1 == 0) = false := by simp; omega
          rw [okUpTo_succ, hok]
          clear hlast hk0 hk1 hwk hwi hi0 hok hget hget'
          cases hq1 : win m.a m.b <;> cases hq2 : okUpTo m.fs (k + 1) <;> simp_all
    · refine .inl ?_
      simp [rows_length] at h
      have : i = m.fs.length := by omega
      subst this
      repeat' first
        | refine WpA.seq ?_
        | refine WpA.region ?_
        | refine WpOps.op _ rfl rfl rfl rfl rfl ?_
        | refine WpOps.nil ?_
        | refine WpA.ret ?_
        | refine WpA.skip ?_
        | refine WpA.cond _ rfl (fun h => ?_) (fun h => ?_)
      all_goals (refine retK.ok rfl rfl (congrArg (AV.int .i64) ?_) .int; rw [check, if_neg (by omega), manOk])
      · rw [Bool.not_eq_true'] at h; rw [h]; rfl
      · rw [Bool.not_eq_false'] at h; rw [h]; rfl
end Go.Gp.Tryd

/- The manifest's checks: the reference's Check. -/
namespace Go.Gp.Tryd
open Go.Proofs
set_option linter.unusedVariables false
set_option linter.unusedSimpArgs false
set_option maxHeartbeats 4000000

theorem lt_not : ∀ (x y : List UInt8), lt y x = !(lt x y || x == y)
  | [], [] => rfl
  | [], _ :: _ => rfl
  | _ :: _, [] => rfl
  | a :: x, b :: y => by
    have ih := lt_not x y
    show (decide (b < a) || (b == a && lt y x)) = !((decide (a < b) || (a == b && lt x y)) || (a :: x == b :: y))
    rw [ih]
    have e : (a :: x == b :: y) = (a == b && x == y) := rfl
    rw [e]
    rcases Nat.lt_trichotomy a.toNat b.toNat with h | h | h
    · have h0 : a < b := UInt8.lt_iff_toNat_lt.2 h
      have h1 : ¬ b < a := fun g => by have := UInt8.lt_iff_toNat_lt.1 g; omega
      have h2 : ¬ b = a := fun e => by subst e; exact h1 h0
      have h3 : ¬ a = b := fun e => h2 e.symm
      simp [h0, h1, h2, h3]
    · have e : a = b := UInt8.toNat_inj.1 h
      subst e
      simp
    · have h0 : b < a := UInt8.lt_iff_toNat_lt.2 h
      have h1 : ¬ a < b := fun g => by have := UInt8.lt_iff_toNat_lt.1 g; omega
      have h2 : ¬ a = b := fun e => by subst e; exact h1 h0
      have h3 : ¬ b = a := fun e => h2 e.symm
      simp [h0, h1, h2, h3]

theorem okUpTo_false {fs : List File} {i : Nat} (h : i < fs.length) (hf : okAt fs i = false) : okUpTo fs fs.length = false := by
  unfold okUpTo
  rw [List.all_eq_false]
  exact ⟨i, by simpa using h, by simpa using hf⟩

theorem refCheck_A (m : Man) (H : List AObj) (hb : m.fs.length ≤ 1000000000000000) : CallsA E 40 [m.av .no] H (Is H (.int .i64 (check m))) := by
  refine .enter Tryd.func40 rfl rfl rfl 47 Tryd.ntmps40 (Nat.le_of_ble_eq_true rfl) ?_
  repeat' first
    | refine WpA.seq ?_
    | refine WpA.region ?_
    | refine WpOps.op _ rfl rfl rfl rfl rfl ?_
    | refine WpOps.box _ rfl rfl rfl rfl rfl ?_
    | (refine WpOps.call rfl rfl rfl rfl rfl (by exact refWinCheck_A _ _ _) ?_; rintro _ _ ⟨rfl, rfl⟩)
    | refine WpA.block ?_
    | refine WpOps.nil ?_
    | refine WpA.ret ?_
    | refine WpA.skip ?_
    | refine WpA.cond _ rfl (fun h => ?_) (fun h => ?_)
  · refine retK.ok rfl rfl (congrArg (AV.int .i64) ?_) .int
    simp [rows_length] at h
    simp [check]; omega
  · refine retK.ok rfl rfl (congrArg (AV.int .i64) ?_) .int
    rename_i h0
    simp [rows_length] at h0
    have hw : win m.a m.b = false := by
      rw [← winCode_zero]
      simpa [bne] using h
    rw [check, if_neg (by omega), manOk, hw]
    rfl
  · rename_i h0
    simp [rows_length] at h0
    have hw : win m.a m.b = true := by
      rw [← winCode_zero]
      simpa [bne] using h
    refine WpA.loopS (α := Nat) (fun i => [(1, .ptr H.length 0 0), (3, .int .i64 i)]) (fun _ => H ++ [AObj.cells (m.cells .no)]) (fun i => i ≤ m.fs.length ∧ okUpTo m.fs i = true) (fun i => m.fs.length - i) 0 ⟨Nat.zero_le _, rfl⟩ ⟨rfl, rfl, trivial⟩ rfl ?_
    rintro i ⟨hi, hu⟩
    repeat' first
      | refine WpA.seq ?_
      | refine WpA.region ?_
      | refine WpOps.op _ rfl rfl rfl rfl rfl ?_
      | refine WpA.block ?_
      | refine WpA.exit ?_
      | refine WpOps.nil ?_
      | refine WpA.ret ?_
      | refine WpA.skip ?_
      | refine WpA.cond _ rfl (fun h => ?_) (fun h => ?_)
      | refine WpA.draw (by kernel_rfl) ?_
      | refine LexA.op _ rfl rfl rfl rfl rfl ?_
    · simp [rows_length] at h
      have hlt : i < m.fs.length := h
      clear h
      have hget : m.fs[i]? = some m.fs[i] := List.getElem?_eq_getElem hlt
      have hi0 := rows_get hlt
      have hwi : IntKind.i64.wrap ((i : Int) + 1) = ((i + 1 : Nat) : Int) := wrap64 (by omega) (by omega)
      rcases i with _ | k
      · have hok : okAt m.fs 0 = name m.fs[0].name := by unfold okAt; rw [hget]; simp
        repeat' first
          | refine WpA.seq ?_
          | refine WpA.region ?_
          | refine WpOps.op _ rfl rfl rfl rfl rfl ?_
          | refine LexA.elem (m.fs[0]).row rfl rfl rfl rfl rfl rfl rfl rfl rfl (Int.natCast_nonneg _) (by exact hi0) ?_
          | refine WpOps.nil ?_
          | refine WpA.ret ?_
          | refine WpA.skip ?_
          | refine WpA.condT rfl ?_
          | refine WpA.condF rfl ?_
          | refine LexA.op _ rfl rfl rfl rfl rfl ?_
          | refine LexA.skip rfl rfl rfl ?_
          | refine LexA.call rfl rfl rfl rfl rfl (by exact refName_A _ _) ?_
          | refine LexA.gsplit _ rfl rfl rfl (fun h => ?_) (fun h => ?_)
          | refine LexA.nil ?_
        · have hf : okAt m.fs 0 = false := by rw [hok]; simpa using h
          refine retK.ok rfl rfl (congrArg (AV.int .i64) ?_) .int
          rw [check, if_neg (by omega), manOk, okUpTo_false hlt hf]; simp
        · have hf : okAt m.fs 0 = true := by rw [hok]; simpa using h
          refine ⟨0 + 1, ⟨hlt, ?_⟩, by omega, ⟨rfl, congrArg (AV.int .i64) hwi, trivial⟩, rfl⟩
          rw [okUpTo_succ, hu, hf]; rfl
      · have hget' : m.fs[k]? = some m.fs[k] := List.getElem?_eq_getElem (by omega)
        have hok : okAt m.fs (k + 1) = (name m.fs[k + 1].name && lt m.fs[k].name m.fs[k + 1].name) := by
          unfold okAt; rw [hget]; simp only [hget']
        rw [lt_not m.fs[k + 1].name m.fs[k].name] at hok
        simp only [lt] at hok
        have hwk : IntKind.i64.wrap (((k + 1 : Nat) : Int) - 1) = (k : Int) := by rw [wrap64 (by omega) (by omega)]; omega
        have hk0 : 0 ≤ IntKind.i64.wrap (((k + 1 : Nat) : Int) - 1) := by rw [hwk]; omega
        have hk1 : (rows m.fs)[(IntKind.i64.wrap (((k + 1 : Nat) : Int) - 1)).toNat]? = some (m.fs[k]).row := by rw [hwk]; exact rows_get _
        repeat' first
          | refine WpA.seq ?_
          | refine WpA.region ?_
          | refine WpOps.op _ rfl rfl rfl rfl rfl ?_
          | refine LexA.elem (m.fs[k + 1]).row rfl rfl rfl rfl rfl rfl rfl rfl rfl (Int.natCast_nonneg _) (by exact hi0) ?_
          | refine LexA.elem (m.fs[k]).row rfl rfl rfl rfl rfl rfl rfl rfl rfl (by exact hk0) (by exact hk1) ?_
          | refine WpOps.nil ?_
          | refine WpA.ret ?_
          | refine WpA.skip ?_
          | refine WpA.condT rfl ?_
          | refine WpA.condF rfl ?_
          | refine WpA.cond _ rfl (fun h => ?_) (fun h => ?_)
          | refine LexA.op _ rfl rfl rfl rfl rfl ?_
          | refine LexA.skip rfl rfl rfl ?_
          | refine LexA.call rfl rfl rfl rfl rfl (by exact refName_A _ _) ?_
          | refine LexA.gsplit _ rfl rfl rfl (fun h => ?_) (fun h => ?_)
          | refine LexA.nil ?_
        all_goals first
          | (have h' : (!name m.fs[k + 1].name) = true := h
             have hf : okAt m.fs (k + 1) = false := by
               rw [hok]
               rw [Bool.not_eq_true'] at h'
               rw [h']
               rfl
             refine retK.ok rfl rfl (congrArg (AV.int .i64) ?_) .int
             rw [check, if_neg (by omega), manOk, okUpTo_false hlt hf]; simp)
          | (have h' : (Op.bytesLess m.fs[k + 1].name m.fs[k].name || m.fs[k + 1].name == m.fs[k].name) = true := h
             have hf : okAt m.fs (k + 1) = false := by
               rw [hok, h']
               simp
             refine retK.ok rfl rfl (congrArg (AV.int .i64) ?_) .int
             rw [check, if_neg (by omega), manOk, okUpTo_false hlt hf]; simp)
          | (have h' : (Op.bytesLess m.fs[k + 1].name m.fs[k].name || m.fs[k + 1].name == m.fs[k].name) = false := h
             have hn : (!name m.fs[k + 1].name) = false := by assumption
             have hf : okAt m.fs (k + 1) = true := by
               rw [hok, h']
               rw [Bool.not_eq_false'] at hn
               rw [hn]
               rfl
             refine ⟨k + 1 + 1, ⟨hlt, ?_⟩, by omega, ⟨rfl, congrArg (AV.int .i64) hwi, trivial⟩, rfl⟩
             rw [okUpTo_succ, hu, hf]; rfl)
          | (exfalso
             have hz : decide (((k + 1 : Nat) : Int) > 0) = true := by rw [decide_eq_true_eq]; omega
             have hq : decide (((k + 1 : Nat) : Int) > 0) = false := by assumption
             rw [hz] at hq
             cases hq)
    · simp [rows_length] at h
      have : i = m.fs.length := by omega
      subst this
      refine retK.ok rfl rfl (congrArg (AV.int .i64) ?_) .int
      rw [check, if_neg (by omega), manOk, hw, hu]
      rfl
end Go.Gp.Tryd

/- The manifest's checks: Same, both. -/
namespace Go.Gp.Tryd
open Go.Proofs
set_option linter.unusedVariables false
set_option linter.unusedSimpArgs false
set_option maxHeartbeats 4000000

def heq (f g : File) : Bool := eqAL f.hash g.hash
def feq (f g : File) : Bool := f.name == g.name && (heq f g && true)

theorem hash_int (f : File) : ∀ a ∈ f.hash, ∃ v, a = .int .u8 v := fun a ha => by
  obtain ⟨i, _, rfl⟩ := List.mem_map.1 ha
  exact ⟨_, rfl⟩

theorem eqHash (f g : File) : EqS E (.inl 61) [.agg f.hash] [.agg g.hash] (heq f g) := .bytes rfl rfl rfl rfl (hash_int f) (hash_int g)
theorem eqFile (f g : File) : EqS E (.inl 63) [.agg f.row] [.agg g.row] (feq f g) :=
  .struct rfl (.cons rfl rfl rfl (.str rfl) (.cons rfl rfl rfl (eqHash f g) .nil))
def weq (a b a' b' : Int) : Bool := a == a' && (b == b' && true)
theorem eqWin (a b a' b' : Int) : EqS E (.inl 24) [.agg [.int .i64 a, .int .i64 b]] [.agg [.int .i64 a', .int .i64 b']] (weq a b a' b') :=
  .struct rfl (.cons rfl rfl rfl (.int rfl) (.cons rfl rfl rfl (.int rfl) .nil))

def eqFs : List File → List File → Bool
  | [], [] => true
  | f :: fs, g :: gs => feq f g && eqFs fs gs
  | _, _ => false

theorem eqFs_len : ∀ {fs gs : List File}, fs.length ≠ gs.length → eqFs fs gs = false
  | [], [], h => absurd rfl h
  | [], _ :: _, _ => rfl
  | _ :: _, [], _ => rfl
  | f :: fs, g :: gs, h => by
    have := eqFs_len (fs := fs) (gs := gs) (by simpa using h)
    simp [eqFs, this]

def same (m m' : Man) : Bool := m.v == m'.v && (weq m.a m.b m'.a m'.b && eqFs m.fs m'.fs)

theorem refSame_A (m m' : Man) (H : List AObj) (hb : m.fs.length ≤ 1000000000000000) : CallsA E 17 [m.av .no, m'.av .no] H (Is H (.bool (same m m'))) := by
  refine .enter Tryd.func17 rfl rfl rfl 45 Tryd.ntmps17 (Nat.le_of_ble_eq_true rfl) ?_
  repeat' first
    | refine WpA.seq ?_
    | refine WpA.region ?_
    | refine WpOps.op _ rfl rfl rfl rfl rfl ?_
    | refine WpOps.box _ rfl rfl rfl rfl rfl ?_
    | refine WpOps.skip rfl rfl rfl ?_
    | refine WpOps.neA rfl rfl rfl rfl rfl rfl key24 (by exact eqWin _ _ _ _) ?_
    | refine WpOps.gsplit _ rfl rfl rfl (fun h => ?_) (fun h => ?_)
    | refine WpA.block ?_
    | refine WpOps.nil ?_
    | refine WpA.ret ?_
    | refine WpA.skip ?_
    | refine WpA.condT rfl ?_
    | refine WpA.cond _ rfl (fun h => ?_) (fun h => ?_)
  · refine retK.ok rfl rfl (congrArg AV.bool ?_) .bool
    have h' : (m.v == m'.v) = false := by simpa [bne] using h
    rw [same, h']; rfl
  · refine retK.ok rfl rfl (congrArg AV.bool ?_) .bool
    have h' : (!weq m.a m.b m'.a m'.b) = true := h
    rw [Bool.not_eq_true'] at h'
    rw [same, h']; simp
  · refine retK.ok rfl rfl (congrArg AV.bool ?_) .bool
    have h' : (((rows m.fs).length : Int) != ((rows m'.fs).length : Int)) = true := h
    simp [rows_length] at h'
    rw [same, eqFs_len (by omega)]; simp
  · rename_i h0 h1
    have e0 : (m.v == m'.v) = true := by simpa [bne] using h0
    have e1 : (!weq m.a m.b m'.a m'.b) = false := h1
    rw [Bool.not_eq_false'] at e1
    have e2 : (((rows m.fs).length : Int) != ((rows m'.fs).length : Int)) = false := h
    simp [rows_length] at e2
    have hs : same m m' = eqFs m.fs m'.fs := by rw [same, e0, e1]; rfl
    have hl : m.fs.length = m'.fs.length := by omega
    rw [hs]
    clear h h0 h1
    refine WpA.loopS (α := Nat) (fun i => [(2, .ptr H.length 0 0), (3, .ptr H.length 1 0), (5, .int .i64 i)]) (fun _ => H ++ [AObj.cells (m.cells .no), AObj.cells (m'.cells .no)]) (fun i => i ≤ m.fs.length ∧ eqFs m.fs m'.fs = eqFs (m.fs.drop i) (m'.fs.drop i)) (fun i => m.fs.length - i) 0 ⟨Nat.zero_le _, rfl⟩ ⟨rfl, rfl, rfl, trivial⟩ rfl ?_
    rintro i ⟨hi, hu⟩
    repeat' first
      | refine WpA.seq ?_
      | refine WpA.region ?_
      | refine WpOps.op _ rfl rfl rfl rfl rfl ?_
      | refine WpA.block ?_
      | refine WpA.exit ?_
      | refine WpOps.nil ?_
      | refine WpA.ret ?_
      | refine WpA.skip ?_
      | refine WpA.cond _ rfl (fun h => ?_) (fun h => ?_)
      | refine WpA.draw (by kernel_rfl) ?_
      | refine LexA.op _ rfl rfl rfl rfl rfl ?_
    · simp [rows_length] at h
      have hlt : i < m.fs.length := h
      have hlt' : i < m'.fs.length := by omega
      clear h
      rw [List.drop_eq_getElem_cons hlt, List.drop_eq_getElem_cons hlt', eqFs] at hu
      have hwi : IntKind.i64.wrap ((i : Int) + 1) = ((i + 1 : Nat) : Int) := wrap64 (by omega) (by omega)
      refine LexA.elem (m.fs[i]).row rfl rfl rfl rfl rfl rfl rfl rfl rfl (Int.natCast_nonneg _) (rows_get hlt) ?_
      repeat' first
        | refine LexA.op _ rfl rfl rfl rfl rfl ?_
      refine LexA.elem (m'.fs[i]).row rfl rfl rfl rfl rfl rfl rfl rfl rfl (Int.natCast_nonneg _) (rows_get hlt') ?_
      repeat' first
        | refine WpA.seq ?_
        | refine WpA.region ?_
        | refine WpOps.op _ rfl rfl rfl rfl rfl ?_
        | refine LexA.neA rfl rfl rfl rfl rfl rfl key53 (by exact eqFile _ _) ?_
        | refine WpOps.nil ?_
        | refine WpA.ret ?_
        | refine WpA.skip ?_
        | refine WpA.cond _ rfl (fun h => ?_) (fun h => ?_)
        | refine LexA.op _ rfl rfl rfl rfl rfl ?_
        | refine LexA.nil ?_
      · refine retK.ok rfl rfl (congrArg AV.bool ?_) .bool
        rw [Bool.not_eq_true'] at h
        rw [hu, h]; rfl
      · refine ⟨i + 1, ⟨hlt, ?_⟩, by omega, ⟨rfl, rfl, congrArg (AV.int .i64) hwi, trivial⟩, rfl⟩
        rw [Bool.not_eq_false'] at h
        rw [hu, h]; rfl
    · simp [rows_length] at h
      refine retK.ok rfl rfl (congrArg AV.bool ?_) .bool
      rw [hu, List.drop_eq_nil_of_le (by omega), List.drop_eq_nil_of_le (by omega)]
      rfl
end Go.Gp.Tryd
