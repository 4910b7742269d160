/- Part of a proof: GdF0, GdF2, GdF3, GdF4, GdF5 -/
import Derived.Test.YtmacdhglhafldaaDoorK15
import Derived.Test.YtmacdhglhafldaaDoorK21
import Derived.Shelf.SlIter.Nil
import Derived.Shelf.SortM.Plain
import Derived.Shelf.SortM.SortNone

/- Files: the kit's contract on sorted keys, laid at this program (the layings by the kit's own tool, in plain words). -/
namespace Go.Proofs
open Go.Shelf
def Tryd.keys64_ren : Go.Shelf.Ren := ⟨fun | 10 => 64 | n => n, fun | 33 => 108 | 23 => 73 | 0 => 0 | 4 => 4 | 26 => 9 | 3 => 49 | n => n, fun | n => n⟩
theorem Tryd.keys64 : Go.Proofs.SlLaysZ.n10 Tryd.prog Tryd.keys64_ren := {
  mixed := by kernel_rfl
  f10 := ⟨Tryd.f64.name, by decide, Tryd.func64.trans (congrArg some (by kernel_rfl))⟩
  t0 := Tryd.underlying0
  a0 := Tryd.isAgg0
  z0 := Tryd.sizeOf0
  v0 := Tryd.zeroValue0
  t4 := Tryd.underlying4
  a4 := Tryd.isAgg4
  z4 := Tryd.sizeOf4
  v4 := Tryd.zeroValue4
  t23 := Tryd.underlying73
  a23 := Tryd.isAgg73
  z23 := Tryd.sizeOf73
  v23 := Tryd.zeroValue73
  t26 := Tryd.underlying9
  a26 := Tryd.isAgg9
  z26 := Tryd.sizeOf9
  v26 := Tryd.zeroValue9
  t33 := Tryd.underlying108
  a33 := Tryd.isAgg108
  z33 := Tryd.sizeOf108
  v33 := Tryd.zeroValue108 }
def Tryd.sorted31_ren : Go.Shelf.Ren := ⟨fun | 6 => 31 | 8 => 62 | 9 => 63 | 11 => 82 | 13 => 84 | 12 => 83 | 23 => 107 | 24 => 71 | 14 => 98 | 15 => 99 | 16 => 100 | 17 => 101 | 18 => 102 | 19 => 103 | 20 => 104 | 21 => 105 | 22 => 106 | 25 => 111 | 26 => 112 | 27 => 113 | 28 => 114 | 29 => 115 | 30 => 116 | 31 => 117 | n => n, fun | 26 => 9 | 28 => 78 | 24 => 38 | 0 => 0 | 3 => 3 | 37 => 122 | 48 => 116 | 50 => 22 | 4 => 4 | 40 => 163 | 39 => 162 | 45 => 109 | 5 => 5 | 9 => 9 | 51 => 172 | 55 => 176 | 57 => 178 | 58 => 179 | 33 => 108 | n => n, fun | n => n⟩
theorem Tryd.sorted31 : Go.Proofs.SlLaysZ.n6 Tryd.prog Tryd.sorted31_ren := {
  mixed := by kernel_rfl
  f6 := ⟨Tryd.f31.name, by decide, Tryd.func31.trans (congrArg some (by kernel_rfl))⟩
  f8 := ⟨Tryd.f62.name, by decide, Tryd.func62.trans (congrArg some (by kernel_rfl))⟩
  f11 := ⟨Tryd.f82.name, by decide, Tryd.func82.trans (congrArg some (by kernel_rfl))⟩
  t0 := Tryd.underlying0
  a0 := Tryd.isAgg0
  z0 := Tryd.sizeOf0
  v0 := Tryd.zeroValue0
  t24 := Tryd.underlying38
  a24 := Tryd.isAgg38
  z24 := Tryd.sizeOf38
  v24 := Tryd.zeroValue38
  t26 := Tryd.underlying9
  a26 := Tryd.isAgg9
  z26 := Tryd.sizeOf9
  v26 := Tryd.zeroValue9
  t28 := Tryd.underlying78
  a28 := Tryd.isAgg78
  z28 := Tryd.sizeOf78
  v28 := Tryd.zeroValue78
  i26 := by kernel_rfl }
def Tryd.sort63_ren : Go.Shelf.Ren := ⟨fun | 6 => 63 | 8 => 84 | 9 => 83 | 19 => 107 | 20 => 71 | 21 => 98 | 22 => 99 | 23 => 100 | 24 => 101 | 25 => 102 | 26 => 103 | 27 => 104 | 28 => 105 | 29 => 106 | 36 => 111 | 31 => 112 | 32 => 113 | 37 => 114 | 38 => 115 | 39 => 116 | 41 => 117 | n => n, fun | 27 => 38 | 29 => 9 | 3 => 3 | 32 => 122 | 26 => 38 | 0 => 0 | 44 => 116 | 46 => 22 | 4 => 4 | 36 => 163 | 35 => 162 | 41 => 109 | 5 => 5 | 9 => 9 | 53 => 172 | 57 => 176 | 63 => 178 | 64 => 179 | n => n, fun | n => n⟩
theorem Tryd.sort63 : Go.Proofs.SlLaysM.n6 Tryd.prog Tryd.sort63_ren := {
  mixed := by kernel_rfl
  f6 := ⟨Tryd.f63.name, by decide, Tryd.func63.trans (congrArg some (by kernel_rfl))⟩
  f8 := Tryd.func84.trans (congrArg some (by kernel_rfl))
  f9 := ⟨Tryd.f83.name, by decide, Tryd.func83.trans (congrArg some (by kernel_rfl))⟩
  f19 := Tryd.func107.trans (congrArg some (by kernel_rfl))
  f20 := Tryd.func71.trans (congrArg some (by kernel_rfl))
  f21 := ⟨Tryd.f98.name, by decide, Tryd.func98.trans (congrArg some (by kernel_rfl))⟩
  f22 := ⟨Tryd.f99.name, by decide, Tryd.func99.trans (congrArg some (by kernel_rfl))⟩
  f23 := ⟨Tryd.f100.name, by decide, Tryd.func100.trans (congrArg some (by kernel_rfl))⟩
  f24 := ⟨Tryd.f101.name, by decide, Tryd.func101.trans (congrArg some (by kernel_rfl))⟩
  f25 := ⟨Tryd.f102.name, by decide, Tryd.func102.trans (congrArg some (by kernel_rfl))⟩
  f26 := ⟨Tryd.f103.name, by decide, Tryd.func103.trans (congrArg some (by kernel_rfl))⟩
  f27 := ⟨Tryd.f104.name, by decide, Tryd.func104.trans (congrArg some (by kernel_rfl))⟩
  f28 := ⟨Tryd.f105.name, by decide, Tryd.func105.trans (congrArg some (by kernel_rfl))⟩
  f29 := ⟨Tryd.f106.name, by decide, Tryd.func106.trans (congrArg some (by kernel_rfl))⟩
  f31 := Tryd.func112.trans (congrArg some (by kernel_rfl))
  f32 := Tryd.func113.trans (congrArg some (by kernel_rfl))
  f36 := ⟨Tryd.f111.name, by decide, Tryd.func111.trans (congrArg some (by kernel_rfl))⟩
  f37 := ⟨Tryd.f114.name, by decide, Tryd.func114.trans (congrArg some (by kernel_rfl))⟩
  f38 := ⟨Tryd.f115.name, by decide, Tryd.func115.trans (congrArg some (by kernel_rfl))⟩
  f39 := ⟨Tryd.f116.name, by decide, Tryd.func116.trans (congrArg some (by kernel_rfl))⟩
  f41 := ⟨Tryd.f117.name, by decide, Tryd.func117.trans (congrArg some (by kernel_rfl))⟩
  t0 := Tryd.underlying0
  a0 := Tryd.isAgg0
  z0 := Tryd.sizeOf0
  v0 := Tryd.zeroValue0
  t3 := Tryd.underlying3
  a3 := Tryd.isAgg3
  z3 := Tryd.sizeOf3
  v3 := Tryd.zeroValue3
  t4 := Tryd.underlying4
  a4 := Tryd.isAgg4
  z4 := Tryd.sizeOf4
  v4 := Tryd.zeroValue4
  t5 := Tryd.underlying5
  a5 := Tryd.isAgg5
  z5 := Tryd.sizeOf5
  v5 := Tryd.zeroValue5
  t9 := Tryd.underlying9
  a9 := Tryd.isAgg9
  z9 := Tryd.sizeOf9
  v9 := Tryd.zeroValue9
  t26 := Tryd.underlying38
  a26 := Tryd.isAgg38
  z26 := Tryd.sizeOf38
  v26 := Tryd.zeroValue38
  t27 := Tryd.underlying38
  a27 := Tryd.isAgg38
  z27 := Tryd.sizeOf38
  v27 := Tryd.zeroValue38
  t29 := Tryd.underlying9
  a29 := Tryd.isAgg9
  z29 := Tryd.sizeOf9
  v29 := Tryd.zeroValue9
  t32 := Tryd.underlying122
  a32 := Tryd.isAgg122
  z32 := Tryd.sizeOf122
  v32 := Tryd.zeroValue122
  t35 := Tryd.underlying162
  a35 := Tryd.isAgg162
  z35 := Tryd.sizeOf162
  v35 := Tryd.zeroValue162
  t36 := Tryd.underlying163
  a36 := Tryd.isAgg163
  z36 := Tryd.sizeOf163
  v36 := Tryd.zeroValue163
  t41 := Tryd.underlying109
  a41 := Tryd.isAgg109
  z41 := Tryd.sizeOf109
  v41 := Tryd.zeroValue109
  t44 := Tryd.underlying116
  a44 := Tryd.isAgg116
  z44 := Tryd.sizeOf116
  v44 := Tryd.zeroValue116
  t46 := Tryd.underlying22
  a46 := Tryd.isAgg22
  z46 := Tryd.sizeOf22
  v46 := Tryd.zeroValue22
  t53 := Tryd.underlying172
  a53 := Tryd.isAgg172
  z53 := Tryd.sizeOf172
  v53 := Tryd.zeroValue172
  t57 := Tryd.underlying176
  a57 := Tryd.isAgg176
  z57 := Tryd.sizeOf176
  v57 := Tryd.zeroValue176
  t63 := Tryd.underlying178
  a63 := Tryd.isAgg178
  z63 := Tryd.sizeOf178
  v63 := Tryd.zeroValue178
  t64 := Tryd.underlying179
  a64 := Tryd.isAgg179
  z64 := Tryd.sizeOf179
  v64 := Tryd.zeroValue179 }
end Go.Proofs

namespace Go.Gp.Tryd
open Go.RowKit Go.Maps Go.Sort Go.Shelf Go.Proofs
set_option linter.unusedVariables false

theorem sorts (m : Nat) : AnyZ.SortsIn Tryd.prog Tryd.sorted31_ren Fence.wide m :=
  ⟨fun blk off cap ss W hH hblk hsz => callsIn_wide.2 (AnyM.slices_Sort_string Tryd.sort63 blk off cap ss W hH hblk hsz),
   fun p cap W => callsIn_wide.2 (AnyM.slices_Sort_string_none Tryd.sort63 p cap W)⟩
theorem sortsKeys : SortsKeys E 31 64 9 := fun b nn Bm D0 R w hB hm hown hmax hbytes => by
  have hseq : SeqGives Fence.wide 2 Tryd.prog 64 #[.pointer (some ⟨Bm, 0, none⟩)] encStr (fun ss => ss.Perm (strKeys D0)) (Maps.size D0) w :=
    AnyZ.keys_gives (ρ := Tryd.keys64_ren) Tryd.keys64 Fence.wide _ trivial rfl (by omega) Bm b nn D0 _ hB hm hown
  exact (callsIn_wide (n := 5)).1 (AnyZ.sorted_in Tryd.sorted31 Fence.wide 5 trivial trivial trivial trivial rfl (by omega) (sorts _) (enters_of Tryd.func63 (by kernel_rfl) rfl) 64 #[.pointer (some ⟨Bm, 0, none⟩)] trivial (enters_of Tryd.func64 (by kernel_rfl) rfl) _ _ hmax hbytes _ hseq)
end Go.Gp.Tryd

/- Files by their names: has, byName, keys. -/
namespace Go.Gp.Tryd
open Go.Proofs
set_option linter.unusedVariables false
set_option linter.unusedSimpArgs false
set_option maxHeartbeats 4000000
set_option maxRecDepth 100000

theorem keyK_of {es : List AEntry} (h : StrKeysA es) : ∀ e ∈ es, keyK .str e.1 = true := fun e he => by
  obtain ⟨s, hs⟩ := h e he
  rw [hs]; rfl
/-- A map of files: its values are bytes. -/
def BytesM (es : List AEntry) : Prop := ∀ e ∈ es, (∃ s, e.1 = .str s) ∧ ∃ bs : List UInt8, e.2.1 = .sl .no 1 (bs.map byteRow)
theorem BytesM.keys {es : List AEntry} (h : BytesM es) : StrKeysA es := fun e he => (h e he).1
theorem obd_mapB {n k : Nat} {es : List AEntry} (h : BytesM es) : OBd n (.map es k) :=
  ⟨fun cs e => (by cases e), fun es' k' e x hx => by
    injection e with e1 e2
    subst e1
    obtain ⟨⟨s, h1⟩, bs, h2⟩ := h x hx
    rw [h1, h2]
    exact ⟨.str, bd_slB _⟩, fun r t e => (by cases e), fun _ _ _ _ _ e => (by cases e)⟩
theorem putM_bytes {es : List AEntry} (h : BytesM es) (clk : Nat) (f : NFile) : BytesM (putM es clk (entK f) (entV f)).1 := by
  intro e he
  unfold putM at he
  cases hf : findA (entK f) es with
  | none =>
    rw [hf] at he
    rcases List.mem_append.1 he with he | he
    · exact h e he
    · have := List.mem_singleton.1 he; subst this; exact ⟨⟨_, rfl⟩, _, rfl⟩
  | some j =>
    rw [hf] at he
    obtain ⟨i, hi⟩ := List.getElem?_of_mem he
    rw [List.getElem?_modify] at hi
    cases he' : es[i]? with
    | none => rw [he'] at hi; simp at hi
    | some e0 =>
      rw [he'] at hi
      by_cases hji : j = i
      · simp [hji] at hi; exact ⟨⟨f.name, by rw [← hi]; rfl⟩, f.bytes, by rw [← hi]; rfl⟩
      · simp [hji] at hi; rw [← hi]; exact h e0 (List.mem_of_getElem? he')
theorem mapTo_bytes (fs : List NFile) : BytesM (mapTo fs).1 := by
  have : ∀ (fs : List NFile) (p : List AEntry × Nat), BytesM p.1 → BytesM (fs.foldl mapStep p).1 := by
    intro fs
    induction fs with
    | nil => intro p h; exact h
    | cons f fs ih => intro p h; exact ih _ (putM_bytes h _ _)
  exact this fs _ (by intro e he; cases he)

/-- What the map holds for a name. -/
def bytesAt (fs : List NFile) (nm : List UInt8) : List UInt8 := ((fs.find? fun f => f.name == nm).map (·.bytes)).getD []
theorem look_entries {ei : TI} (hz : zeroV ei = .sl .full 0 []) : ∀ (fs : List NFile) (k : Nat) (nm : List UInt8),
    lookM ei (entries fs k) (.str nm) = if nm ∈ names fs then (.sl .no 1 ((bytesAt fs nm).map byteRow), true) else (.sl .full 0 [], false)
  | [], k, nm => by simp [entries, lookM, findA, names, hz]
  | f :: fs, k, nm => by
    have ih := look_entries hz fs (k + 1) nm
    have he : entries (f :: fs) k = (entK f, entV f, k) :: entries fs (k + 1) := by simp [entries, List.zipIdx_cons]
    rw [he]
    unfold lookM findA
    by_cases hn : nm = f.name
    · subst hn
      have : keyB (.str f.name) (entK f) = true := by simp [keyB, entK]
      rw [this]
      simp [names, bytesAt, entV]
    · have h1 : keyB (.str nm) (entK f) = false := by simpa [keyB, entK] using hn
      have h2 : (f.name == nm) = false := by simpa using fun e => hn e.symm
      rw [h1]
      simp only [cond_false]
      unfold lookM at ih
      have hb : bytesAt (f :: fs) nm = bytesAt fs nm := by rw [bytesAt, List.find?_cons, h2]; rfl
      have hm : nm ∈ names (f :: fs) ↔ nm ∈ names fs := by simp [names, hn]
      rw [hb]
      simp only [hm]
      rw [← ih]
      cases findA (.str nm) (entries fs (k + 1)) <;> rfl
theorem look_has (ei : TI) {es : List AEntry} (h : StrKeysA es) (nm : List UInt8) : (lookM ei es (.str nm)).2 = decide (nm ∈ keysOf es) := by
  unfold lookM
  cases hf : findA (.str nm) es with
  | none => have := (findA_none h).1 hf; simp [this]
  | some j => have := List.mem_of_getElem? (findA_some h hf); simp [this]

theorem has_A (es : List AEntry) (clk : Nat) (h : StrKeysA es) (nm : List UInt8) (m j : Nat) (H : List AObj) (hH : H[m + j]? = some (.map es clk)) : CallsA E 38 [.map m j, .str nm] H (Is H (.bool (decide (nm ∈ keysOf es)))) := by
  refine .enter Tryd.func38 rfl rfl rfl 14 Tryd.ntmps38 (Nat.le_of_ble_eq_true rfl) ?_
  repeat' first
    | refine WpA.seq ?_
    | refine WpA.region ?_
    | refine WpOps.op _ rfl rfl rfl rfl rfl ?_
    | (refine WpOps.p1 rfl rfl rfl (.lookup true rfl rfl rfl (getL hH) rfl rfl (keyK_of h)) ?_)
    | refine WpOps.nil ?_
    | refine WpA.ret ?_
  exact retK.ok rfl rfl (congrArg AV.bool (look_has _ h nm)) .bool
def badName (fs : List NFile) : Bool := fs.any fun f => !name f.name
def byNameE (fs : List NFile) : Int := if 200 < fs.length then 4 else if badName fs then 8 else if (names fs).Nodup then 0 else 14
def byNameR (fs : List NFile) (H : List AObj) : AEnd → List AObj → Prop := fun e H' =>
  if byNameE fs = 0 then H' = H ++ [.map (entries fs 0) fs.length] ∧ e = .ret (.tup [.map H.length 0, .int .i64 0]) else H' = H ∧ e = .ret (.tup [.nilm, .int .i64 (byNameE fs)])
theorem byNameR_bad {fs : List NFile} {H : List AObj} {k : Int} (h : byNameE fs = k) (hk : k ≠ 0) : byNameR fs H (.ret (.tup [.nilm, .int .i64 k])) H := by
  rw [byNameR, h, if_neg hk]; exact ⟨rfl, rfl⟩

theorem byName_A (fs : List NFile) (H : List AObj) (hl : fs.length ≤ 1000000000) : CallsA E 30 [.sl .no 2 (nrows fs)] H (byNameR fs H) := by
  have hlen := nrows_len fs
  have hbad : ∀ k : Int, Bd H.length (.tup [.nilm, .int .i64 k]) := fun k => .tup fun x hx => by
    simp only [List.mem_cons, List.not_mem_nil, or_false] at hx
    rcases hx with rfl | rfl
    · exact .nilm
    · exact .int
  refine .enter Tryd.func30 rfl rfl rfl 33 Tryd.ntmps30 (Nat.le_of_ble_eq_true rfl) ?_
  by_cases h200 : 200 < fs.length
  · repeat' first
      | refine WpA.seq ?_
      | refine WpA.region ?_
      | refine WpOps.op _ rfl rfl rfl rfl rfl ?_
      | refine WpOps.nil ?_
      | refine WpA.ret ?_
      | refine WpA.skip ?_
      | refine WpA.cond _ rfl (fun h => ?_) (fun h => ?_)
    · exact retK.sub (.inr rfl) rfl (TrOk.refl H) (L := _) rfl rfl (Sub.refl _) (hbad _) (byNameR_bad (by rw [byNameE, if_pos h200]) (by decide))
    all_goals (simp at h; omega)
  · repeat' first
      | refine WpA.seq ?_
      | refine WpA.region ?_
      | refine WpOps.op _ rfl rfl rfl rfl rfl ?_
      | (refine WpOps.p1 rfl rfl rfl (.makeMap rfl) ?_)
      | refine WpA.block ?_
      | refine WpOps.nil ?_
      | refine WpA.ret ?_
      | refine WpA.skip ?_
      | refine WpA.cond _ rfl (fun h => ?_) (fun h => ?_)
    · simp at h; omega
    · refine WpA.loopG fs.length (fun i => [(0, .sl .no 2 (nrows fs)), (4, .map H.length 0), (11, .sl .no 2 (nrows fs)), (12, .int .i64 (fs.length : Nat)), (13, .int .i64 (i : Nat))]) (fun i => H ++ [.map (mapTo (fs.take i)).1 (mapTo (fs.take i)).2]) (fun i => badName (fs.take i) = false) rfl
        ⟨rfl, rfl, rfl, by rw [← hlen]; rfl, rfl, trivial⟩ rfl (fun _ _ => by simp) (fun i hi _ => ?_) (fun i hi _ => ?_) (fun i hi hok => ?_) (fun hok => ?_) (fun _ => ⟨rfl, rfl, rfl, rfl, rfl, trivial⟩)
      · refine TrOk.app fun k o hk => ?_
        rcases k with _ | k
        · injection hk with hk; subst hk; exact .inr (obd_mapB (mapTo_bytes _))
        · cases hk
      · exact ⟨bd_nrows _ _, .map (by simp), bd_nrows _ _, .int, .int, trivial⟩
      · have hg := nrows_get hi
        have hnm : ∀ H, CallsA E 56 [.str fs[i].name] H (Is H (.bool (name fs[i].name))) := fun H => Name_A _ H
        have hst : mapTo (fs.take (i + 1)) = putM (mapTo (fs.take i)).1 (mapTo (fs.take i)).2 (entK fs[i]) (entV fs[i]) := by
          rw [List.take_succ_eq_append_getElem hi, mapTo_snoc]; rfl
        have hbd1 : badName (fs.take (i + 1)) = (badName (fs.take i) || !name fs[i].name) := by
          rw [List.take_succ_eq_append_getElem hi, badName, badName, List.any_append]; simp
        have hk := keyK_of (mapTo_bytes (fs.take i)).keys
        repeat' first
          | (refine WpOps.elem _ rfl rfl rfl rfl rfl rfl rfl rfl rfl (Int.natCast_nonneg i) hg ?_)
          | refine WpA.seq ?_
          | refine WpA.region ?_
          | refine WpOps.op _ rfl rfl rfl rfl rfl ?_
          | refine WpOps.alloc _ rfl rfl rfl rfl rfl rfl ?_
          | refine WpOps.store rfl rfl rfl rfl rfl rfl rfl rfl rfl rfl ?_
          | (refine WpOps.call rfl rfl rfl rfl rfl (by exact hnm _) ?_; rintro _ _ ⟨rfl, rfl⟩)
          | (refine WpOps.u1h (H ++ [.map (mapTo (fs.take (i + 1))).1 (mapTo (fs.take (i + 1))).2, .cells fs[i].row]) rfl rfl (.mapUpdate (.inl rfl) rfl rfl (app_get (j := 0) rfl rfl) rfl rfl rfl hk) (by rw [set_app, hst]; rfl) ?_)
          | refine WpA.block ?_
          | refine WpA.exit ?_
          | refine WpOps.nil ?_
          | refine WpA.ret ?_
          | refine WpA.skip ?_
          | refine WpA.cond _ rfl (fun h => ?_) (fun h => ?_)
        · have hb : name fs[i].name = false := by simpa using h
          refine retK.sub (.inr rfl) rfl (TrOk.refl H) (L := _) rfl rfl (Sub.refl _) (hbad _) (byNameR_bad ?_ (by decide))
          have : badName fs = true := List.any_eq_true.2 ⟨fs[i], List.getElem_mem hi, by rw [hb]; rfl⟩
          rw [byNameE, if_neg h200, if_pos this]
        · have hb : name fs[i].name = true := by simpa using h
          refine ⟨by rw [hbd1, hok, hb]; rfl, ⟨rfl, rfl, rfl, rfl, congrArg (AV.int .i64) (wrap64 (by omega) (by omega)), trivial⟩, [.cells fs[i].row], ?_⟩
          simp
        · simp at h; omega
      · rw [List.take_length] at hok ⊢
        have hsp := mapTo_spec fs
        repeat' first
          | (refine WpOps.p1 rfl rfl rfl (.lenM rfl rfl rfl (app_get (j := 0) rfl rfl)) ?_)
          | refine WpA.seq ?_
          | refine WpA.region ?_
          | refine WpOps.op _ rfl rfl rfl rfl rfl ?_
          | refine WpA.block ?_
          | refine WpA.exit ?_
          | refine WpOps.nil ?_
          | refine WpA.ret ?_
          | refine WpA.skip ?_
          | refine WpA.cond _ rfl (fun h => ?_) (fun h => ?_)
        · simp at h
        · have hne : ¬ (names fs).Nodup := fun hn => by
            have h1 := hsp.2.2.1.2 hn
            simp [h1, hlen] at h
          refine retK.sub (.inr rfl) rfl (TrOk.refl H) (L := _) rfl rfl (Sub.refl _) (hbad _) (byNameR_bad ?_ (by decide))
          rw [byNameE, if_neg h200, if_neg (by rw [hok]; simp), if_neg hne]
        · have hn : (names fs).Nodup := hsp.2.2.1.1 (by
            have := of_decide_eq_false h
            rw [hlen] at this
            have := hsp.2.1
            omega)
          rw [hsp.2.2.2 hn]
          refine retK.all (.inr rfl) rfl rfl (Sub.refl _) ?_
          rw [byNameR, if_pos (by rw [byNameE, if_neg h200, if_neg (by rw [hok]; simp), if_pos hn])]
          exact ⟨rfl, rfl⟩
theorem keys_A (m j : Nat) (H : List AObj) : CallsA E 32 [.map m j] H (fun e H' => H' = H ++ [.cells [.map m j]] ∧ e = .ret (.func 64 [.ptr H.length 0 0])) := by
  refine .enter Tryd.func32 rfl rfl rfl 4 Tryd.ntmps32 (Nat.le_of_ble_eq_true rfl) ?_
  repeat' first
    | refine WpA.seq ?_
    | refine WpA.region ?_
    | refine WpOps.op _ rfl rfl rfl rfl rfl ?_
    | refine WpOps.box _ rfl rfl rfl rfl rfl ?_
    | refine WpOps.nil ?_
    | refine WpA.ret ?_
  exact retK.all (.inr rfl) rfl rfl (Sub.refl _) ⟨rfl, rfl⟩

theorem sorted_A (m j m' j' : Nat) (es : List AEntry) (clk : Nat) (H : List AObj) (hH : H[m + j]? = some (.cells [.map m' j'])) (hM : H[m' + j']? = some (.map es clk)) (hkeys : ∀ e ∈ es, ∃ s, e.1 = .str s ∧ s.length ≤ 140737488355328) (hnd : (keysOf es).Nodup)
    (hst : (es.map (·.2.2)).Nodup ∧ ∀ e ∈ es, e.2.2 < clk) (hlen : es.length * 16 ≤ 140737488355328) : CallsA E 31 [.func 64 [.ptr m j 0]] H (Is H (.sl .no 1 ((sortB (keysOf es)).map fun s => [.str s]))) :=
  .sortedKeys sortsKeys Tryd.func31 rfl rfl Tryd.underlying9 hH hM hkeys hnd hst hlen
end Go.Gp.Tryd

/- The manifest: Make. -/
namespace Go.Gp.Tryd
open Go.Proofs
set_option linter.unusedVariables false
set_option linter.unusedSimpArgs false
set_option maxHeartbeats 4000000
set_option maxRecDepth 100000

def hashOf (fs : List NFile) (nm : List UInt8) : File := ⟨nm, sha (bytesAt fs nm)⟩
def makeFs (fs : List NFile) : List File := (sortB (names fs)).map (hashOf fs)
def makeE (a b : Int) (fs : List NFile) : Int := if win a b then byNameE fs else 8
def makeM (v a b : Int) (fs : List NFile) : Man := if makeE a b fs = 0 then ⟨v, a, b, makeFs fs⟩ else zeroMan

theorem bytesAt_len {fs : List NFile} {k : Nat} (h : ∀ f ∈ fs, f.bytes.length ≤ k) (nm : List UInt8) : (bytesAt fs nm).length ≤ k := by
  unfold bytesAt
  cases hf : fs.find? (fun f => f.name == nm) with
  | none => exact Nat.zero_le _
  | some f => exact h f (List.mem_of_find?_eq_some hf)
theorem entries_bytes (fs : List NFile) (k : Nat) : BytesM (entries fs k) := fun e he => by
  obtain ⟨p, _, rfl⟩ := List.mem_map.1 he
  exact ⟨⟨_, rfl⟩, _, rfl⟩
theorem entries_stamps (fs : List NFile) : ((entries fs 0).map (·.2.2)).Nodup ∧ ∀ e ∈ entries fs 0, e.2.2 < fs.length := by
  have h : (entries fs 0).map (·.2.2) = List.range fs.length := by
    simp only [entries, List.map_map]
    apply List.ext_getElem?
    intro i
    simp only [List.getElem?_map, List.getElem?_zipIdx]
    by_cases hi : i < fs.length
    · rw [List.getElem?_eq_getElem hi, List.getElem?_range hi]; simp
    · rw [List.getElem?_eq_none (by omega), List.getElem?_eq_none (by simp; omega)]; rfl
  refine ⟨by rw [h]; exact List.nodup_range, fun e he => ?_⟩
  have : e.2.2 ∈ (entries fs 0).map (·.2.2) := List.mem_map.2 ⟨e, he, rfl⟩
  rw [h] at this
  exact List.mem_range.1 this
theorem byNameE_ok {fs : List NFile} (h : byNameE fs = 0) : fs.length ≤ 200 ∧ badName fs = false ∧ (names fs).Nodup := by
  unfold byNameE at h
  split at h
  · cases h
  · split at h
    · cases h
    · split at h
      · rename_i h1 h2 h3
        exact ⟨by omega, by simpa using h2, h3⟩
      · cases h
theorem names_short {fs : List NFile} (h : badName fs = false) : ∀ s ∈ names fs, s.length ≤ 40 := fun s hs => by
  obtain ⟨f, hf, rfl⟩ := List.mem_map.1 hs
  have h1 : name f.name = true := by
    have := List.any_eq_false.1 h f hf
    simpa using this
  simp only [name, Bool.and_eq_true, decide_eq_true_eq] at h1
  exact h1.1.1.1.2
theorem entries_keysB {fs : List NFile} (h : badName fs = false) : ∀ e ∈ entries fs 0, ∃ s, e.1 = .str s ∧ s.length ≤ 140737488355328 := fun e he => by
  have hk : strA1 e.1 ∈ keysOf (entries fs 0) := List.mem_map.2 ⟨e, he, rfl⟩
  rw [entries_keys] at hk
  obtain ⟨s, hs⟩ := (entries_bytes fs 0 e he).1
  refine ⟨s, hs, ?_⟩
  rw [hs] at hk
  have := names_short h s hk
  omega

theorem make_A (v a b : Int) (fs : List NFile) (H : List AObj) (hl : fs.length ≤ 1000000000) (hb : ∀ f ∈ fs, f.bytes.length ≤ 1000000000) :
    CallsA E 13 [.int .u64 v, .agg [.int .i64 a, .int .i64 b], .sl .no 2 (nrows fs)] H (Is H (.tup [(makeM v a b fs).av .no, .int .i64 (makeE a b fs)])) := by
  have hW := fun H => winCheck_A a b H
  have hN := fun H => byName_A fs H hl
  have hzero : ∀ k, makeE a b fs = k → k ≠ 0 → AEnd.ret (.tup [zeroMan.av .no, .int .i64 k]) = .ret (.tup [(makeM v a b fs).av .no, .int .i64 (makeE a b fs)]) := fun k h hk => by rw [makeM, h, if_neg hk]
  have hfin : ∀ (k : Int) {t : Slots} {L : List AObj} {xs : List AV}, makeE a b fs = k → k ≠ 0 → xs = [.agg [.int .u64 0, .int .i64 0, .int .i64 0, .sl .full 0 []], .int .i64 k] → resL L E.T t [.cell 6 27, .tmp 7] = some xs → resN H.length t [.cell 6 27, .tmp 7] = [H.length, H.length] → retK E [.cell 6 27, .tmp 7] H (Is H (.tup [(makeM v a b fs).av .no, .int .i64 (makeE a b fs)])) .ret t (H ++ L) := fun k t L xs h hk e1 e2 e3 =>
    retK.sub (.inr rfl) rfl (TrOk.refl H) (L := L) e2 e3 (by rw [e1]; exact Sub.tup (vs := [zeroMan.av .no, .int .i64 k]) ⟨zeroMan_sub, Sub.refl _, trivial⟩) (man_bd _ _ _) ⟨rfl, hzero k h hk⟩
  refine .enter Tryd.func13 rfl rfl rfl 50 Tryd.ntmps13 (Nat.le_of_ble_eq_true rfl) ?_
  by_cases hw : win a b = true
  · have hw' : winCode a b = 0 := by rw [winCode, if_pos hw]
    rw [hw'] at hW
    have hmk : makeE a b fs = byNameE fs := by rw [makeE, if_pos hw]
    by_cases he : byNameE fs = 0
    · have hN0 : ∀ o1 o2 : AObj, CallsA E 30 [.sl .no 2 (nrows fs)] (H ++ [o1, o2]) (fun e H' => H' = H ++ [o1, o2, .map (entries fs 0) fs.length] ∧ e = .ret (.tup [.map H.length 2, .int .i64 0])) := fun o1 o2 =>
        CallsA.reR (r0 := .tup [.map (H ++ [o1, o2]).length 0, .int .i64 0]) ((hN _).mono fun e H' h => by rw [byNameR, if_pos he] at h; exact h) (Sub.tup ⟨Sub.map (by simp), Sub.refl _, trivial⟩) (by simp)
      have hK0 : ∀ o1 o2 o3 o4 : AObj, CallsA E 32 [.map H.length 2] (H ++ [o1, o2, o3, o4]) (fun e H' => H' = H ++ [o1, o2, o3, o4, .cells [.map H.length 2]] ∧ e = .ret (.func 64 [.ptr H.length 4 0])) := fun o1 o2 o3 o4 =>
        CallsA.reR (keys_A _ _ _) (Sub.func ⟨Sub.ptr (by simp), trivial⟩) (by simp)
      obtain ⟨g1, g2, g3⟩ := byNameE_ok he
      obtain ⟨ns, hns⟩ : ∃ ns, ns = sortB (names fs) := ⟨_, rfl⟩
      have hnl : ns.length ≤ 200 := by rw [hns, (sortB_perm _).length_eq, names, List.length_map]; exact g1
      have hnm : ∀ s ∈ ns, s ∈ names fs := fun s hs => by rw [hns] at hs; exact (sortB_perm _).mem_iff.1 hs
      have hS := fun m' j' m j H h1 h2 => sorted_A m j m' j' (entries fs 0) fs.length H h1 h2 (entries_keysB g2) (by rw [entries_keys]; exact g3) (entries_stamps fs) (by rw [entries_len]; omega)
      rw [entries_keys, ← hns] at hS
      have hS0 : ∀ o1 o2 o4 : AObj, CallsA E 31 [.func 64 [.ptr H.length 4 0]] (H ++ [o1, o2, .map (entries fs 0) fs.length, o4, .cells [.map H.length 2]]) (Is (H ++ [o1, o2, .map (entries fs 0) fs.length, o4, .cells [.map H.length 2]]) (.sl .no 1 (ns.map fun s => [.str s]))) := fun o1 o2 o4 => hS H.length 2 H.length 4 _ (app_get rfl rfl) (app_get rfl rfl)
      repeat' first
        | refine WpA.seq ?_
        | refine WpA.region ?_
        | refine WpOps.op _ rfl rfl rfl rfl rfl ?_
        | refine WpOps.box _ rfl rfl rfl rfl rfl ?_
        | refine WpOps.alloc _ rfl rfl rfl rfl rfl rfl ?_
        | refine WpOps.store rfl rfl rfl rfl rfl rfl rfl rfl rfl rfl ?_
        | refine WpOps.build _ rfl rfl rfl rfl rfl ?_
        | (refine WpOps.call rfl rfl rfl rfl rfl (by exact hW _) ?_; rintro _ _ ⟨rfl, rfl⟩)
        | (refine WpOps.call rfl rfl rfl rfl rfl (by exact hS0 _ _ _) ?_; rintro _ _ ⟨rfl, rfl⟩)
        | (refine WpOps.call rfl rfl rfl rfl rfl (by exact hN0 _ _) ?_; rintro _ _ ⟨rfl, rfl⟩)
        | (refine WpOps.call rfl rfl rfl rfl rfl (by exact hK0 _ _ _ _) ?_; rintro _ _ ⟨rfl, rfl⟩)
        | refine WpA.block ?_
        | refine WpOps.nil ?_
        | refine WpA.skip ?_
        | refine WpA.condF rfl ?_
      have hmE : makeE a b fs = 0 := by rw [hmk, he]
      have hmM : makeM v a b fs = ⟨v, a, b, ns.map (hashOf fs)⟩ := by rw [makeM, if_pos hmE, makeFs, hns]
      have hnsl : (ns.map fun s => [AV.str s]).length = ns.length := List.length_map _
      refine WpA.adoptC (j := 3) (q := 3) 33 rfl rfl ?_
      let rw0 : Nat → List (List AV) := fun i => rows ((ns.take i).map (hashOf fs))
      refine WpA.loopG ns.length (fun i => [(6, .ptr H.length 1 0), (8, .map H.length 2), (10, .ptr H.length 3 0), (31, .sl .no 1 (ns.map fun s => [.str s])), (32, .int .i64 (ns.length : Nat)), (33, .int .i64 (i : Nat))])
        (fun i => H ++ [.cells [.int .i64 a, .int .i64 b], .cells [.int .u64 0, .int .i64 0, .int .i64 0, .sl .full 0 []], .map (entries fs 0) fs.length, .cells [.int .u64 v, .int .i64 a, .int .i64 b, .sl (.row H.length 5) 33 (rw0 i)], .cells [.map H.length 2], .tail (rw0 i).length 33])
        (fun _ => True) trivial ⟨rfl, rfl, rfl, rfl, by rw [← hnsl]; rfl, rfl, trivial⟩ rfl (fun _ _ => by simp) (fun i hi _ => ?_) (fun i hi _ => ?_) (fun i hi _ => ?_) (fun _ => ?_) (fun _ => ⟨rfl, rfl, rfl, rfl, rfl, rfl, trivial⟩)
      · refine TrOk.app fun k o hk => ?_
        rcases k with _ | _ | _ | _ | _ | _ | k
        · exact .inl hk
        · exact .inl hk
        · exact .inl hk
        · injection hk with hk; subst hk
          refine .inr (obd_cells fun x hx => ?_)
          simp only [List.mem_cons, List.not_mem_nil, or_false] at hx
          rcases hx with rfl | rfl | rfl | rfl
          · exact .int
          · exact .int
          · exact .int
          · refine .sl (fun _ _ e => by cases e; simp) fun x hx e he => ?_
            have := rows_bd (H.length + 6) ((ns.take (i + 1)).map (hashOf fs))
            cases this with
            | sl _ h => exact (h x hx e he).le (by simp)
        · exact .inl hk
        · injection hk with hk; subst hk; exact .inr obd_tail
        · cases hk
      · refine ⟨.ptr (by simp), .map (by simp), .ptr (by simp), .sl (fun _ _ e => by cases e) fun x hx e he => ?_, .int, .int, trivial⟩
        obtain ⟨s, _, rfl⟩ := List.mem_map.1 hx
        have := List.mem_singleton.1 he
        subst this
        exact .str
      · have hg : (ns.map fun s => [AV.str s])[((i : Nat) : Int).toNat]? = some [.str ns[i]] := by rw [Int.toNat_natCast, List.getElem?_map, List.getElem?_eq_getElem hi]; rfl
        have hin := hnm _ (List.getElem_mem hi)
        have hlk : ∀ ei : TI, zeroV ei = .sl .full 0 [] → (lookM ei (entries fs 0) (.str ns[i])).1 = .sl .no 1 ((bytesAt fs ns[i]).map byteRow) := fun ei hz => by rw [look_entries hz, if_pos hin]
        have hsum := fun H => sum_A (bytesAt fs ns[i]) (Nat.le_trans (bytesAt_len hb _) (by decide)) H
        have hrw : rw0 i ++ [(hashOf fs ns[i]).row] = rw0 (i + 1) := by
          show rows _ ++ _ = rows _
          rw [List.take_succ_eq_append_getElem hi, rows, rows, List.map_append, List.map_append]; rfl
        have hrl : (rw0 i).length = i := by show (rows _).length = i; rw [rows_length, List.length_map, List.length_take]; omega
        generalize rw0 i = ri at *
        have hlike : ∀ H0, Like [H.length + 3, H.length + 2] (H ++ [.cells [.int .i64 a, .int .i64 b], .cells [.int .u64 0, .int .i64 0, .int .i64 0, .sl .full 0 []], .map (entries fs 0) fs.length, .cells [.int .u64 v, .int .i64 a, .int .i64 b, .sl (.row H.length 5) 33 ri], .cells [.map H.length 2], .tail ri.length 33]) H0 → H0[H.length + 2]? = some (.map (entries fs 0) fs.length) := fun H0 h => h _ (by simp) _ (app_get rfl rfl)
        repeat' first
          | refine WpA.drawI [H.length + 3, H.length + 2] [0, 4, 0, 0, 0, 4, 0, 0, 0, 3, 0, 2] (by kernel_rfl) (by kernel_rfl) ?_
          | (refine WpOps.elem _ rfl rfl rfl rfl rfl rfl rfl rfl rfl (Int.natCast_nonneg i) hg ?_)
          | refine WpA.seq ?_
          | refine WpA.region ?_
          | refine WpOps.op _ rfl rfl rfl rfl rfl ?_
          | refine WpOps.store rfl rfl rfl rfl rfl rfl rfl rfl rfl rfl ?_
          | (refine LexH.p4 rfl rfl rfl rfl (fun H0 hH0 => .lookupV rfl rfl rfl (hlike H0 hH0) rfl rfl (keyK_of (entries_bytes fs 0).keys) (hlk _ rfl)) ?_)
          | refine WpA.block ?_
          | refine WpA.exit ?_
          | refine WpOps.nil ?_
          | refine WpA.ret ?_
          | refine WpA.skip ?_
          | refine WpA.cond _ rfl (fun h => ?_) (fun h => ?_)
          | refine LexH.op0 _ rfl rfl rfl rfl rfl (fun _ => rfl) ?_
          | refine LexH.load4 _ rfl rfl rfl rfl rfl rfl (by simp) rfl rfl rfl rfl ?_
          | refine LexH.build _ rfl rfl rfl rfl rfl rfl ?_
          | refine LexH.buildSlice _ rfl rfl rfl rfl rfl rfl rfl rfl rfl rfl rfl rfl ?_
          | refine LexH.call0 rfl rfl rfl rfl rfl rfl (fun _ => by exact hsum _) ?_
        · refine LexH.appR3 rfl rfl rfl rfl rfl rfl rfl rfl (fun k h => by cases h) rfl rfl rfl rfl rfl rfl ?_ ?_ (by exact Like.two (fun _ h => h) (fun _ h => h)) ?_
          · intro y hy x hx
            have hy' := List.mem_singleton.1 hy
            subst hy'
            revert x
            show ∀ x ∈ File.row (hashOf fs ns[i]), x.one = true
            intro x hx
            rcases List.mem_cons.1 hx with rfl | hx
            · rfl
            · obtain ⟨k, _, rfl⟩ := List.mem_map.1 hx; rfl
          · show (ri.length + 1) * 48 ≤ _
            omega
          · repeat' first
              | refine WpA.region ?_
              | refine WpOps.op _ rfl rfl rfl rfl rfl ?_
              | refine WpOps.nil ?_
              | refine LexH.op0 _ rfl rfl rfl rfl rfl (fun _ => rfl) ?_
              | refine LexH.store rfl rfl rfl rfl rfl rfl rfl rfl rfl rfl rfl ?_
              | refine LexH.nil ?_
            refine ⟨trivial, ⟨rfl, rfl, rfl, rfl, rfl, congrArg (AV.int .i64) (wrap64 (by omega) (by omega)), trivial⟩, [], ?_⟩
            rw [List.append_nil, ← hrw]
            rfl
        · simp at h; omega
      · have hr : rw0 ns.length = rows (ns.map (hashOf fs)) := by show rows _ = _; rw [List.take_length]
        rw [hr, hmE, hmM]
        repeat' first
          | refine WpA.seq ?_
          | refine WpA.region ?_
          | refine WpOps.op _ rfl rfl rfl rfl rfl ?_
          | refine WpOps.store rfl rfl rfl rfl rfl rfl rfl rfl rfl rfl ?_
          | refine WpA.block ?_
          | refine WpA.exit ?_
          | refine WpOps.nil ?_
          | refine WpA.ret ?_
          | refine WpA.skip ?_
          | refine WpA.cond _ rfl (fun h => ?_) (fun h => ?_)
        · simp at h
        · exact retK.sub (.inr rfl) rfl (TrOk.refl H) (L := _) rfl rfl (Sub.tup (vs := [Man.av ⟨v, a, b, ns.map (hashOf fs)⟩ .no, .int .i64 0]) ⟨Sub.agg (vs := [.int .u64 v, .int .i64 a, .int .i64 b, .sl .no 33 (rows (ns.map (hashOf fs)))]) ⟨Sub.refl _, Sub.refl _, Sub.refl _, Sub.untag, trivial⟩, Sub.refl _, trivial⟩) (man_bd _ _ _) ⟨rfl, rfl⟩
    · have hN0 : ∀ H, CallsA E 30 [.sl .no 2 (nrows fs)] H (Is H (.tup [.nilm, .int .i64 (byNameE fs)])) := fun H => (hN H).mono fun e H' h => by rw [byNameR, if_neg he] at h; exact h
      repeat' first
        | refine WpA.seq ?_
        | refine WpA.region ?_
        | refine WpOps.op _ rfl rfl rfl rfl rfl ?_
        | refine WpOps.box _ rfl rfl rfl rfl rfl ?_
        | refine WpOps.alloc _ rfl rfl rfl rfl rfl rfl ?_
        | refine WpOps.store rfl rfl rfl rfl rfl rfl rfl rfl rfl rfl ?_
        | refine WpOps.build _ rfl rfl rfl rfl rfl ?_
        | (refine WpOps.call rfl rfl rfl rfl rfl (by exact hW _) ?_; rintro _ _ ⟨rfl, rfl⟩)
        | (refine WpOps.call rfl rfl rfl rfl rfl (by exact hN0 _) ?_; rintro _ _ ⟨rfl, rfl⟩)
        | refine WpOps.nil ?_
        | refine WpA.ret ?_
        | refine WpA.skip ?_
        | refine WpA.condF rfl ?_
        | refine WpA.cond _ rfl (fun h => ?_) (fun h => ?_)
      · exact hfin (byNameE fs) hmk he rfl rfl rfl
      all_goals (exact absurd (by simpa using h) he)
  · have hw' : winCode a b = 8 := by rw [winCode, if_neg hw]
    rw [hw'] at hW
    repeat' first
      | refine WpA.seq ?_
      | refine WpA.region ?_
      | refine WpOps.op _ rfl rfl rfl rfl rfl ?_
      | refine WpOps.box _ rfl rfl rfl rfl rfl ?_
      | refine WpOps.alloc _ rfl rfl rfl rfl rfl rfl ?_
      | refine WpOps.store rfl rfl rfl rfl rfl rfl rfl rfl rfl rfl ?_
      | refine WpOps.build _ rfl rfl rfl rfl rfl ?_
      | (refine WpOps.call rfl rfl rfl rfl rfl (by exact hW _) ?_; rintro _ _ ⟨rfl, rfl⟩)
      | refine WpOps.nil ?_
      | refine WpA.ret ?_
      | refine WpA.condT rfl ?_
    · exact hfin 8 (by rw [makeE, if_neg hw]) (by decide) rfl rfl rfl
    all_goals (have h' : (8 : Int) = 0 := by simpa using h; exact absurd h' (by decide))
end Go.Gp.Tryd

/- The manifest: the files for which a function holds; what Match asks. -/
namespace Go.Gp.Tryd
open Go.Proofs
set_option linter.unusedVariables false
set_option linter.unusedSimpArgs false
set_option maxHeartbeats 4000000
set_option maxRecDepth 100000

theorem those_A (m : Man) (fv : AV) (hfv : cellsA fv = some [fv]) (H : List AObj) : CallsA E 36 [m.av .no, fv] H (fun e H' => H' = H ++ [.cells (m.cells .no), .cells [fv]] ∧ e = .ret (.func 70 [.ptr H.length 0 0, .ptr H.length 1 0])) := by
  have h1 : CallsA E 36 [m.av .no, fv] H (fun e H' => H' = H ++ [.cells (m.cells .no), .cells [fv]] ∧ e = .ret (.func 70 [.ptr H.length 0 0, .ptr H.length 1 0])) := by
    refine .enter Tryd.func36 rfl rfl rfl 6 Tryd.ntmps36 (Nat.le_of_ble_eq_true rfl) ?_
    repeat' first
      | refine WpOps.box [fv] rfl rfl rfl rfl hfv ?_
      | refine WpA.seq ?_
      | refine WpA.region ?_
      | refine WpOps.op _ rfl rfl rfl rfl rfl ?_
      | refine WpOps.box _ rfl rfl rfl rfl rfl ?_
      | refine WpOps.nil ?_
      | refine WpA.ret ?_
    exact retK.all (.inr rfl) rfl rfl (Sub.refl _) ⟨rfl, rfl⟩
  exact h1

def nameIts (l : List File) : List (List AV) := l.map fun f => [.str f.name]
def thosePre (m : Man) (g : Nat) (caps : List AV) (p q q' : Nat) (pre : List AObj → Prop) (H : List AObj) : Prop := H[p + q]? = some (.cells (m.cells .no)) ∧ H[p + q']? = some (.cells [.func g caps]) ∧ pre H

theorem those1_A (m : Man) (hm : m.fs.length ≤ 1000000000) (g : Nat) (caps : List AV) (ok : File → Bool) (pre : List AObj → Prop) (hh : ∀ f ∈ m.fs, ∀ H X, pre H → CallsA E g ([.agg f.row] ++ caps) (H ++ X) (Is (H ++ X) (.bool (ok f)))) (p q q' : Nat) :
    IterQ E 70 [.ptr p q 0, .ptr p q' 0] (thosePre m g caps p q q' pre) false (ι := List AV) id (fun _ _ => True) (fun h => h <+: nameIts (m.fs.filter ok)) (fun its => its = nameIts (m.fs.filter ok)) := by
  intro yn yj σ Hf f okσ hy hpre _ s X hs
  obtain ⟨N, hN0⟩ : ∃ N, (Hf s ++ X).length = N := ⟨_, rfl⟩
  have hN : ∀ s', (Hf s' ++ X).length = N := fun s' => by rw [List.length_append, hy.len s' s, ← List.length_append]; exact hN0
  have hp0 := hpre s X
  have hrl := rows_length m.fs
  refine .enter Tryd.func70 rfl rfl rfl 24 Tryd.ntmps70 (Nat.le_of_ble_eq_true rfl) ?_
  let σs : Nat → σ := fun i => runIt f s (nameIts ((m.fs.take i).filter ok))
  have htk : ∀ i (hi : i < m.fs.length), nameIts ((m.fs.take (i + 1)).filter ok) = nameIts ((m.fs.take i).filter ok) ++ (if ok m.fs[i] then [[AV.str m.fs[i].name]] else []) := fun i hi => by
    rw [List.take_succ_eq_append_getElem hi, List.filter_append, nameIts, List.map_append]
    congr 1
    cases h : ok m.fs[i] <;> simp [h]
  have hpf : ∀ i (hi : i < m.fs.length), ok m.fs[i] = true → nameIts ((m.fs.take i).filter ok) ++ [[AV.str m.fs[i].name]] <+: nameIts (m.fs.filter ok) := fun i hi h => by
    have e1 := htk i hi
    rw [h, if_pos rfl] at e1
    rw [← e1]
    refine ⟨nameIts ((m.fs.drop (i + 1)).filter ok), ?_⟩
    rw [nameIts, nameIts, ← List.map_append, ← List.filter_append, List.take_append_drop]; rfl
  repeat' first
    | refine WpA.seq ?_
    | refine WpA.region ?_
    | refine WpOps.op _ rfl rfl rfl rfl rfl ?_
    | (refine WpOps.loadOut _ rfl rfl rfl rfl rfl hp0.1 rfl rfl rfl ?_)
    | refine WpA.block ?_
    | refine WpOps.nil ?_
  refine WpA.knowBd 0 fun hyb => ?_
  have hyl : yn + yj < N := by
    cases hyb with
    | yld h => rw [List.append_nil, hN0] at h; exact h
  refine WpA.loopG m.fs.length (fun i => [(0, .yld yn yj), (2, .ptr p q' 0), (7, .sl .no 33 (rows m.fs)), (8, .int .i64 (m.fs.length : Nat)), (9, .int .i64 (i : Nat))]) (fun i => (Hf (σs i) ++ X)) (fun i => allIt f s (nameIts ((m.fs.take i).filter ok)) = true ∧ okσ (nameIts ((m.fs.take i).filter ok)) (σs i)) ⟨rfl, hs⟩ ⟨rfl, rfl, rfl, by rw [← hrl]; rfl, rfl, trivial⟩ (by rw [List.append_nil]; rfl)
    (fun i _ => by rw [hN, hN]) (fun i hi _ => hy.tr _ _ X) (fun i hi _ => ?_) (fun i hi hok => ?_) (fun hok => ?_) (fun _ => ⟨rfl, rfl, rfl, rfl, rfl, trivial⟩)
  · rw [hN]
    have h1 := get_lt hp0.2.1
    rw [hN] at h1
    exact ⟨.yld hyl, .ptr h1, rows_bd _ _, .int, .int, trivial⟩
  · obtain ⟨B, hB⟩ : ∃ B, B = Hf (σs i) ++ X := ⟨_, rfl⟩
    have hpi := hpre (σs i) X
    rw [← hB] at hpi ⊢
    have hg := rows_get hi
    have hcall := fun X => hh m.fs[i] (List.getElem_mem hi) B X hpi.2.2
    refine WpA.heap (H' := B ++ []) (List.append_nil _).symm ?_
    cases hf : ok m.fs[i] with
    | false =>
      rw [hf] at hcall
      have hnx : σs (i + 1) = σs i := by show runIt f s _ = runIt f s _; rw [htk i hi, hf]; simp
      repeat' first
        | (refine WpOps.elem _ rfl rfl rfl rfl rfl rfl rfl rfl rfl (Int.natCast_nonneg i) hg ?_)
        | refine WpA.seq ?_
        | refine WpA.region ?_
        | refine WpOps.op _ rfl rfl rfl rfl rfl ?_
        | refine WpOps.alloc _ rfl rfl rfl rfl rfl rfl ?_
        | refine WpOps.store rfl rfl rfl rfl rfl rfl rfl rfl rfl rfl ?_
        | refine WpOps.skip rfl rfl rfl ?_
        | (refine WpOps.loadOut _ rfl rfl rfl rfl rfl hpi.2.1 rfl rfl rfl ?_)
        | (refine WpOps.call rfl rfl rfl rfl rfl (by exact hcall _) ?_; rintro _ _ ⟨rfl, rfl⟩)
        | refine WpA.block ?_
        | refine WpA.exit ?_
        | refine WpOps.nil ?_
        | refine WpA.skip ?_
        | refine WpA.condF rfl ?_
        | refine WpA.cond _ rfl (fun h => ?_) (fun h => ?_)
      · refine ⟨⟨by rw [htk i hi, hf, if_neg (by decide), List.append_nil]; exact hok.1, by rw [hnx, htk i hi, hf, if_neg (by decide), List.append_nil]; exact hok.2⟩, ⟨rfl, rfl, rfl, rfl, congrArg (AV.int .i64) (wrap64 (by omega) (by omega)), trivial⟩, [.cells m.fs[i].row], ?_⟩
        rw [hnx, ← hB]; rfl
      · simp at h; omega
    | true =>
      rw [hf] at hcall
      have hx := hpf i hi hf
      have happ := hy.app _ (σs i) [.str m.fs[i].name] (X ++ [.cells m.fs[i].row]) hok.2 hx trivial
      rw [← List.append_assoc, ← hB] at happ
      have hnx : σs (i + 1) = (f (σs i) [.str m.fs[i].name]).2 := by
        show runIt f s _ = _
        rw [htk i hi, hf, if_pos rfl, runIt_append, hok.1]
        show (bif (f (σs i) [.str m.fs[i].name]).1 then _ else _) = _
        cases (f (σs i) [.str m.fs[i].name]).1 <;> rfl
      have hnok := hy.next _ (σs i) [.str m.fs[i].name] hok.2 hx
      repeat' first
        | (refine WpOps.elem _ rfl rfl rfl rfl rfl rfl rfl rfl rfl (Int.natCast_nonneg i) hg ?_)
        | refine WpA.seq ?_
        | refine WpA.region ?_
        | refine WpOps.op _ rfl rfl rfl rfl rfl ?_
        | refine WpOps.alloc _ rfl rfl rfl rfl rfl rfl ?_
        | refine WpOps.store rfl rfl rfl rfl rfl rfl rfl rfl rfl rfl ?_
        | refine WpOps.skip rfl rfl rfl ?_
        | (refine WpOps.loadOut _ rfl rfl rfl rfl rfl hpi.2.1 rfl rfl rfl ?_)
        | (refine WpOps.call rfl rfl rfl rfl rfl (by exact hcall _) ?_; rintro _ _ ⟨rfl, rfl⟩)
        | refine WpOps.gsplit _ rfl rfl rfl (fun h => ?_) (fun h => ?_)
        | refine WpA.block ?_
        | refine WpA.exit ?_
        | refine WpOps.nil ?_
        | refine WpA.skip ?_
        | refine WpA.condF rfl ?_
        | refine WpA.cond _ rfl (fun h => ?_) (fun h => ?_)
      · refine WpOps.callV rfl rfl rfl rfl rfl happ ?_
        rintro _ _ ⟨rfl, rfl⟩
        obtain ⟨B2, hB2⟩ : ∃ B2, B2 = Hf (f (σs i) [.str m.fs[i].name]).2 ++ X := ⟨_, rfl⟩
        rw [← List.append_assoc, ← hB2]
        cases hb : (f (σs i) [.str m.fs[i].name]).1 with
        | true =>
          repeat' first
            | refine WpA.region ?_
            | refine WpOps.op _ rfl rfl rfl rfl rfl ?_
            | refine WpOps.nil ?_
            | refine WpA.skip ?_
            | refine WpA.condF rfl ?_
          refine ⟨⟨?_, by rw [hnx, htk i hi, hf, if_pos rfl]; exact hnok hb⟩, ⟨rfl, rfl, rfl, rfl, congrArg (AV.int .i64) (wrap64 (by omega) (by omega)), trivial⟩, [.cells m.fs[i].row], by rw [hnx, ← hB2]⟩
          rw [htk i hi, hf, if_pos rfl, allIt_append, hok.1]
          show (true && (bif (f (σs i) [.str m.fs[i].name]).1 then true else false)) = true
          rw [hb]; rfl
        | false =>
          have hfin : runIt f s (nameIts (m.fs.filter ok)) = (f (σs i) [.str m.fs[i].name]).2 := by
            have e1 : m.fs = m.fs.take i ++ (m.fs[i] :: m.fs.drop (i + 1)) := by rw [← List.drop_eq_getElem_cons hi, List.take_append_drop]
            conv => lhs; rw [e1]
            rw [List.filter_append, nameIts, List.map_append, List.filter_cons, if_pos hf, List.map_cons, runIt_append]
            have h3 : allIt f s (List.map (fun f => [AV.str f.name]) ((m.fs.take i).filter ok)) = true := hok.1
            rw [h3]
            show (bif (f (σs i) [.str m.fs[i].name]).1 then _ else _) = _
            rw [hb]; rfl
          repeat' first
            | refine WpOps.op _ rfl rfl rfl rfl rfl ?_
            | refine WpOps.nil ?_
            | refine WpA.ret ?_
            | refine WpA.condT rfl ?_
          refine retK.sub (H1 := B2) (.inr rfl) (by rw [hB2, hN, hN]) (by rw [hB2]; exact hy.tr _ _ X) rfl rfl (r := .tup []) (Sub.refl _) (.tup (by simp)) ⟨rfl, _, rfl, ?_⟩
          rw [hfin, hB2]
      all_goals first | (simp at h; done) | (simp at h; omega)
  · refine WpA.heap (H' := (Hf (σs m.fs.length) ++ X) ++ []) (List.append_nil _).symm ?_
    repeat' first
      | refine WpA.seq ?_
      | refine WpA.region ?_
      | refine WpOps.op _ rfl rfl rfl rfl rfl ?_
      | refine WpA.block ?_
      | refine WpA.exit ?_
      | refine WpOps.nil ?_
      | refine WpA.skip ?_
      | refine WpA.cond _ rfl (fun h => ?_) (fun h => ?_)
    · simp at h
    · refine retK.sub (H1 := Hf (σs m.fs.length) ++ X) (.inl rfl) (by rw [hN, hN]) (hy.tr _ _ X) rfl rfl (r := .tup []) (Sub.refl _) (.tup (by simp)) ⟨rfl, _, rfl, ?_⟩
      show Hf (runIt f s (nameIts ((m.fs.take m.fs.length).filter ok))) ++ X = _
      rw [List.take_length]
end Go.Gp.Tryd

/- The manifest: what Match asks of each file. -/
namespace Go.Gp.Tryd
open Go.Proofs
set_option linter.unusedVariables false
set_option linter.unusedSimpArgs false
set_option maxHeartbeats 4000000
set_option maxRecDepth 100000

theorem keyHash : KeyT Tryd.E 61 := ⟨by kernel_rfl, by kernel_rfl⟩
def namedPre (fs : List NFile) (m j m' j' : Nat) (H : List AObj) : Prop := H[m + j]? = some (.cells [.map m' j']) ∧ H[m' + j']? = some (.map (entries fs 0) fs.length)
def missF (fs : List NFile) (f : File) : Bool := !decide (f.name ∈ names fs)
def wrongF (fs : List NFile) (f : File) : Bool := decide (f.name ∈ names fs) && !heq (hashOf fs f.name) f

theorem match1_A (fs : List NFile) (m j m' j' : Nat) (f : File) (H X : List AObj) (hp : namedPre fs m j m' j' H) : CallsA E 37 ([.agg f.row] ++ [.ptr m j 0]) (H ++ X) (Is (H ++ X) (.bool (missF fs f))) := by
  have hh := fun L => has_A (entries fs 0) fs.length (entries_bytes fs 0).keys f.name m' j' ((H ++ X) ++ L) (getL (getL hp.2))
  rw [entries_keys] at hh
  refine .enter Tryd.func37 rfl rfl rfl 9 Tryd.ntmps37 (Nat.le_of_ble_eq_true rfl) ?_
  repeat' first
    | refine WpA.seq ?_
    | refine WpA.region ?_
    | refine WpOps.op _ rfl rfl rfl rfl rfl ?_
    | refine WpOps.box _ rfl rfl rfl rfl rfl ?_
    | (refine WpOps.call rfl rfl rfl rfl rfl (by exact hh _) ?_; rintro _ _ ⟨rfl, rfl⟩)
    | (refine WpOps.loadOut _ rfl rfl rfl rfl rfl (getL hp.1) rfl rfl rfl ?_)
    | refine WpOps.nil ?_
    | refine WpA.ret ?_
  exact retK.ok rfl rfl rfl .bool

theorem match2_A (fs : List NFile) (hb : ∀ f ∈ fs, f.bytes.length ≤ 1000000000) (m j m' j' : Nat) (f : File) (H X : List AObj) (hp : namedPre fs m j m' j' H) : CallsA E 39 ([.agg f.row] ++ [.ptr m j 0]) (H ++ X) (Is (H ++ X) (.bool (wrongF fs f))) := by
  have hh := fun L => has_A (entries fs 0) fs.length (entries_bytes fs 0).keys f.name m' j' ((H ++ X) ++ L) (getL (getL hp.2))
  rw [entries_keys] at hh
  have hs := fun H => sum_A (bytesAt fs f.name) (Nat.le_trans (bytesAt_len hb _) (by decide)) H
  have hX : ∀ L, ((H ++ X) ++ L)[m + j]? = some (.cells [.map m' j']) := fun L => getL (getL hp.1)
  have hM : ∀ L, ((H ++ X) ++ L)[m' + j']? = some (.map (entries fs 0) fs.length) := fun L => getL (getL hp.2)
  have hlk : f.name ∈ names fs → ∀ ei : TI, zeroV ei = .sl .full 0 [] → (lookM ei (entries fs 0) (.str f.name)).1 = .sl .no 1 ((bytesAt fs f.name).map byteRow) := fun hin ei hz => by rw [look_entries hz, if_pos hin]
  refine .enter Tryd.func39 rfl rfl rfl 18 Tryd.ntmps39 (Nat.le_of_ble_eq_true rfl) ?_
  by_cases hin : f.name ∈ names fs
  · have e1 : decide (f.name ∈ names fs) = true := decide_eq_true hin
    rw [e1] at hh
    have hlk := hlk hin
    repeat' first
      | refine WpA.seq ?_
      | refine WpA.region ?_
      | refine WpOps.op _ rfl rfl rfl rfl rfl ?_
      | refine WpOps.box _ rfl rfl rfl rfl rfl ?_
      | (refine LexA.p1 rfl rfl rfl (.loadN rfl rfl (hX _) rfl rfl rfl rfl) ?_)
      | (refine LexA.p1 rfl rfl rfl (.lookupV rfl rfl rfl (hM _) rfl rfl (keyK_of (entries_bytes fs 0).keys) (hlk _ rfl)) ?_)
      | refine LexA.neA rfl rfl rfl rfl rfl rfl keyHash (by exact eqHash (hashOf fs f.name) f) ?_
      | refine WpOps.nil ?_
      | refine WpA.ret ?_
      | refine WpA.draw (by kernel_rfl) ?_
      | refine LexA.op _ rfl rfl rfl rfl rfl ?_
      | refine LexA.call rfl rfl rfl rfl rfl (by exact hh _) ?_
      | refine LexA.call rfl rfl rfl rfl rfl (by exact hs _) ?_
      | refine LexA.nil ?_
    exact retK.ok rfl rfl (congrArg AV.bool (by rw [wrongF, e1]; rfl)) .bool
  · have e1 : decide (f.name ∈ names fs) = false := decide_eq_false hin
    rw [e1] at hh
    repeat' first
      | refine WpA.seq ?_
      | refine WpA.region ?_
      | refine WpOps.op _ rfl rfl rfl rfl rfl ?_
      | refine WpOps.box _ rfl rfl rfl rfl rfl ?_
      | (refine LexA.p1 rfl rfl rfl (.loadN rfl rfl (hX _) rfl rfl rfl rfl) ?_)
      | refine WpOps.nil ?_
      | refine WpA.ret ?_
      | refine WpA.draw (by kernel_rfl) ?_
      | refine LexA.op _ rfl rfl rfl rfl rfl ?_
      | refine LexA.skip rfl rfl rfl ?_
      | refine LexA.call rfl rfl rfl rfl rfl (by exact hh _) ?_
      | refine LexA.nil ?_
    exact retK.ok rfl rfl (congrArg AV.bool (by rw [wrongF, e1]; rfl)) .bool
theorem map_erase {α β : Type} (g : α → β) : ∀ (l : List α) (j : Nat), (l.eraseIdx j).map g = (l.map g).eraseIdx j
  | [], _ => rfl
  | _ :: _, 0 => rfl
  | a :: l, j + 1 => by rw [List.eraseIdx_cons_succ, List.map_cons, List.map_cons, List.eraseIdx_cons_succ, map_erase g l j]
/-- Names cut out of a map. -/
theorem cutM_spec {es : List AEntry} (h : BytesM es) (hn : (keysOf es).Nodup) (s : List UInt8) : BytesM (cutM es (.str s)) ∧ keysOf (cutM es (.str s)) = (keysOf es).filter (fun k => k != s) ∧ (cutM es (.str s)).Sublist es := by
  unfold cutM
  cases hf : findA (.str s) es with
  | none =>
    have := (findA_none h.keys).1 hf
    refine ⟨h, ?_, List.Sublist.refl _⟩
    exact (List.filter_eq_self.2 fun a ha => by simp only [bne_iff_ne]; rintro rfl; exact this ha).symm
  | some j =>
    have h1 := findA_some h.keys hf
    have hsub := List.eraseIdx_sublist es j
    refine ⟨fun e he => h e (hsub.subset he), ?_, hsub⟩
    have e1 : keysOf (es.eraseIdx j) = (keysOf es).eraseIdx j := map_erase _ _ _
    rw [e1]
    generalize keysOf es = ks at h1 hn
    clear hf e1 hsub h
    induction ks generalizing j with
    | nil => simp at h1
    | cons k ks ih =>
      obtain ⟨n1, n2⟩ := List.nodup_cons.1 hn
      cases j with
      | zero =>
        simp at h1
        subst h1
        simp only [List.eraseIdx_cons_zero, List.filter_cons, bne_self_eq_false]
        exact (List.filter_eq_self.2 fun a ha => by simp only [bne_iff_ne]; rintro rfl; exact n1 ha).symm
      | succ j =>
        rw [List.getElem?_cons_succ] at h1
        have hks : k ≠ s := fun e => n1 (e ▸ List.mem_of_getElem? h1)
        rw [List.eraseIdx_cons_succ, ih j h1 n2, List.filter_cons, if_pos (by simpa using hks)]
def cutAll (es : List AEntry) (fs : List File) : List AEntry := fs.foldl (fun es f => cutM es (.str f.name)) es
theorem cutAll_spec : ∀ (fs : List File) {es : List AEntry}, BytesM es → (keysOf es).Nodup → BytesM (cutAll es fs) ∧ keysOf (cutAll es fs) = (keysOf es).filter (fun k => !(fs.map (·.name)).contains k) ∧ (cutAll es fs).Sublist es
  | [], es, h, hn => ⟨h, (List.filter_eq_self.2 fun a _ => rfl).symm, List.Sublist.refl _⟩
  | f :: fs, es, h, hn => by
    obtain ⟨h1, h2, h3⟩ := cutM_spec h hn f.name
    have hn1 : (keysOf (cutM es (.str f.name))).Nodup := by rw [h2]; exact hn.filter _
    obtain ⟨i1, i2, i3⟩ := cutAll_spec fs h1 hn1
    refine ⟨i1, ?_, i3.trans h3⟩
    show keysOf (cutAll (cutM es (.str f.name)) fs) = _
    rw [i2, h2, List.filter_filter]
    apply List.filter_congr
    intro k _
    simp [Bool.and_comm]
    by_cases hk : k = f.name <;> simp [hk]
theorem cutAll_snoc (es : List AEntry) (fs : List File) (f : File) : cutAll es (fs ++ [f]) = cutM (cutAll es fs) (.str f.name) := by rw [cutAll, List.foldl_append]; rfl
end Go.Gp.Tryd
