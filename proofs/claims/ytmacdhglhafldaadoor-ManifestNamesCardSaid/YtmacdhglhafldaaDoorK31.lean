/- Part of a proof: GdP6, GdX2, GdP7, GdX5 -/
import Derived.Test.YtmacdhglhafldaaDoorK17
import Derived.Test.YtmacdhglhafldaaDoorK30

/- Manifests that are made of files: plain facts. -/
namespace Go.Gp.Tryd
open Go.Proofs
set_option linter.unusedVariables false
set_option linter.unusedSimpArgs false
set_option maxHeartbeats 4000000

theorem heq_refl (f : File) : heq f f = true := eqAL_refl _ (hash_int f)
theorem lt_iff : ∀ (x y : List UInt8), lt x y = true ↔ x < y
  | [], [] => by constructor <;> intro h <;> cases h
  | [], _ :: _ => ⟨fun _ => List.nil_lt_cons _ _, fun _ => rfl⟩
  | _ :: _, [] => by constructor <;> intro h <;> cases h
  | a :: x, b :: y => by
    have ih := lt_iff x y
    show (decide (a < b) || (a == b && lt x y)) = true ↔ _
    rw [List.cons_lt_cons_iff, ← ih]
    simp
theorem lt_of_le_ne {x y : List UInt8} (h : x ≤ y) (hn : x ≠ y) : lt x y = true := by
  have h1 : lt y x = false := by
    cases e : lt y x with
    | false => rfl
    | true => exact absurd ((lt_iff y x).1 e) (List.not_lt.2 h)
  rw [lt_not x y] at h1
  have h2 : (x == y) = false := by simpa using hn
  rw [h2] at h1
  simpa using h1
theorem sortB_lt {ss : List (List UInt8)} (h : ss.Nodup) : (sortB ss).Pairwise fun x y => lt x y = true :=
  ((sortB_pairwise ss).and ((sortB_perm ss).nodup_iff.2 h)).imp fun h => lt_of_le_ne h.1 h.2
theorem okUp_intro {fs : List File} (hn : ∀ f ∈ fs, name f.name = true) (hp : fs.Pairwise fun f g => lt f.name g.name = true) : okUpTo fs fs.length = true := by
  unfold okUpTo
  rw [List.all_eq_true]
  intro i hi
  have hi' := List.mem_range.1 hi
  unfold okAt
  rw [List.getElem?_eq_getElem hi']
  simp only [hn _ (List.getElem_mem hi'), Bool.true_and]
  cases i with
  | zero => rfl
  | succ k =>
    simp only [List.getElem?_eq_getElem (show k < fs.length by omega)]
    exact List.pairwise_iff_getElem.1 hp k (k + 1) (by omega) hi' (by omega)
theorem hashOf_name (fs : List NFile) (n : List UInt8) : (hashOf fs n).name = n := rfl
theorem fnames_make (fs : List NFile) : fnames (makeFs fs) = sortB (names fs) := by
  rw [fnames, makeFs, List.map_map]
  exact List.map_id _
theorem makeFs_len (fs : List NFile) : (makeFs fs).length = fs.length := by
  rw [makeFs, List.length_map, (sortB_perm _).length_eq, names, List.length_map]
theorem mem_sortB {ss : List (List UInt8)} {s : List UInt8} : s ∈ sortB ss ↔ s ∈ ss := (sortB_perm ss).mem_iff
theorem makeE_win {a b : Int} {fs : List NFile} (h : makeE a b fs = 0) : win a b = true ∧ byNameE fs = 0 := by
  unfold makeE at h
  split at h
  · rename_i hw; exact ⟨hw, h⟩
  · cases h
theorem make_ok {v a b : Int} {fs : List NFile} (h : makeE a b fs = 0) : makeM v a b fs = ⟨v, a, b, makeFs fs⟩ := by rw [makeM, if_pos h]
theorem make_check {v a b : Int} {fs : List NFile} (h : makeE a b fs = 0) : check (makeM v a b fs) = 0 := by
  obtain ⟨hw, hb⟩ := makeE_win h
  obtain ⟨g1, g2, g3⟩ := byNameE_ok hb
  rw [make_ok h]
  have h1 : okUpTo (makeFs fs) (makeFs fs).length = true := by
    refine okUp_intro (fun f hf => ?_) ?_
    · obtain ⟨n, hn, rfl⟩ := List.mem_map.1 hf
      obtain ⟨g, hg, rfl⟩ := List.mem_map.1 (mem_sortB.1 hn)
      have := List.any_eq_false.1 g2 g hg
      have h1 : name g.name = true := by simpa using this
      exact h1
    · exact List.pairwise_map.2 ((sortB_lt g3).imp fun h => h)
  have h2 : manOk ⟨v, a, b, makeFs fs⟩ = true := by
    rw [manOk, Bool.and_eq_true]
    exact ⟨hw, h1⟩
  rw [check, if_neg (by show ¬ 200 < (makeFs fs).length; rw [makeFs_len]; omega), if_pos h2]
theorem find_map (fs : List NFile) (y : List UInt8) : ∀ ns : List (List UInt8), (ns.map (hashOf fs)).find? (·.name == y) = if y ∈ ns then some (hashOf fs y) else none
  | [] => rfl
  | n :: ns => by
    rw [List.map_cons, List.find?_cons, find_map fs y ns]
    show (match n == y with | true => _ | false => _) = _
    by_cases h : n = y
    · subst h; simp
    · have : (n == y) = false := by simpa using h
      rw [this]
      have h' : ¬ y = n := fun e => h e.symm
      simp [h']
theorem seek_make {v a b : Int} {fs : List NFile} (h : makeE a b fs = 0) (y : List UInt8) : seek (makeM v a b fs) y = if y ∈ names fs then some (hashOf fs y) else none := by
  rw [make_ok h, seek]
  show (makeFs fs).find? _ = _
  rw [makeFs, find_map]
  simp only [mem_sortB]
def noFile : File := ⟨[], fun _ => 0⟩
def findF (fs : List NFile) (y : List UInt8) : File := if y ∈ names fs then hashOf fs y else noFile
def findE (fs : List NFile) (y : List UInt8) : Int := if y ∈ names fs then 0 else 6
theorem findAV_make {v a b : Int} {fs : List NFile} (h : makeE a b fs = 0) (y : List UInt8) : findAV (makeM v a b fs) y = .tup [.agg (findF fs y).hash, .int .i64 (findE fs y)] := by
  have hc := make_check (v := v) h
  have hs := seek_make (v := v) h y
  unfold findAV findCode findHash findByte findF findE
  rw [if_pos hc, if_pos hc, hs]
  by_cases hy : y ∈ names fs
  · rw [if_pos hy, if_pos hy, if_pos hy]; rfl
  · rw [if_neg hy, if_neg hy, if_neg hy]; rfl
theorem findM_A {v a b : Int} {fs : List NFile} (h : makeE a b fs = 0) (y : List UInt8) (H : List AObj) : CallsA E 27 [(makeM v a b fs).av .no, .str y] H (Is H (.tup [.agg (findF fs y).hash, .int .i64 (findE fs y)])) := by
  have hl : (makeM v a b fs).fs.length ≤ 1000000000000000 := by
    rw [make_ok h]
    show (makeFs fs).length ≤ _
    have := (byNameE_ok (makeE_win h).2).1
    rw [makeFs_len]; omega
  have := Find_A (makeM v a b fs) y H hl
  rw [findAV_make h] at this
  exact this
theorem find_nodup : ∀ {fs : List NFile} {f : NFile}, f ∈ fs → (names fs).Nodup → fs.find? (fun g => g.name == f.name) = some f
  | [], _, h, _ => by cases h
  | g :: fs, f, h, hn => by
    rw [List.find?_cons]
    have hn' : g.name ∉ names fs ∧ (names fs).Nodup := List.nodup_cons.1 hn
    rcases List.mem_cons.1 h with rfl | h
    · simp
    · have hne : g.name ≠ f.name := fun e => hn'.1 (e ▸ List.mem_map.2 ⟨f, h, rfl⟩)
      have : (g.name == f.name) = false := by simpa using hne
      rw [this]
      exact find_nodup h hn'.2
theorem bytesAt_of {fs : List NFile} {f : NFile} (h : f ∈ fs) (hn : (names fs).Nodup) : bytesAt fs f.name = f.bytes := by
  rw [bytesAt, find_nodup h hn]; rfl
theorem hashOf_of {fs : List NFile} {f : NFile} (h : f ∈ fs) (hn : (names fs).Nodup) : hashOf fs f.name = ⟨f.name, sha f.bytes⟩ := by
  rw [hashOf, bytesAt_of h hn]
theorem mem_names {fs : List NFile} {f : NFile} (h : f ∈ fs) : f.name ∈ names fs := List.mem_map.2 ⟨f, h, rfl⟩

theorem zeroS_A (H : List AObj) : CallsA E 17 [zeroMan.av .no, .agg [.int .u64 0, .int .i64 0, .int .i64 0, .sl .full 0 []]] H (Is H (.bool true)) := by
  have := refSame_A zeroMan zeroMan H (by decide)
  rw [same_refl] at this
  exact CallsA.subL (vs := [zeroMan.av .no, zeroMan.av .no]) ⟨Sub.refl _, zeroMan_sub, trivial⟩ this

/-- What Match says of a manifest that was made. -/
def inB (gs : List NFile) (n : List UInt8) : Bool := decide (n ∈ names gs)
def badB (fs gs : List NFile) (n : List UInt8) : Bool := inB gs n && !heq (hashOf gs n) (hashOf fs n)
theorem matchE_make {v a b : Int} {fs : List NFile} (h : makeE a b fs = 0) (gs : List NFile) : matchE (makeM v a b fs) gs = byNameE gs := by
  rw [matchE, if_pos (make_check h)]
theorem fnames_filter (fs : List NFile) (p : File → Bool) : ∀ ns : List (List UInt8), fnames ((ns.map (hashOf fs)).filter p) = ns.filter fun n => p (hashOf fs n)
  | [] => rfl
  | n :: ns => by
    have ih := fnames_filter fs p ns
    rw [List.map_cons, List.filter_cons, List.filter_cons]
    by_cases hp : p (hashOf fs n) = true
    · rw [if_pos hp, if_pos hp, ← ih]; rfl
    · rw [if_neg hp, if_neg hp, ih]
theorem matchR_make {v a b : Int} {fs : List NFile} (h : makeE a b fs = 0) {gs : List NFile} (hg : byNameE gs = 0) :
    matchR (makeM v a b fs) gs = ⟨(sortB (names fs)).filter fun n => !inB gs n, (sortB (names fs)).filter (badB fs gs), sortB ((names gs).filter fun n => !inB fs n)⟩ := by
  have h0 := (matchE_make (v := v) h gs).trans hg
  rw [matchR, if_pos h0, make_ok h]
  show Rep.mk (fnames ((makeFs fs).filter _)) (fnames ((makeFs fs).filter _)) (sortB ((names gs).filter fun k => !(fnames (makeFs fs)).contains k)) = _
  rw [fnames_make]
  congr 1
  · rw [makeFs, fnames_filter]; rfl
  · rw [makeFs, fnames_filter]; rfl
  · congr 1
    apply List.filter_congr
    intro k _
    have : (sortB (names fs)).contains k = inB fs k := by
      rw [inB, Bool.eq_iff_iff, List.contains_iff_mem, decide_eq_true_eq, mem_sortB]
    rw [this]
end Go.Gp.Tryd

/- The laws of manifests: the chapter's examples. -/
namespace Go.Gp.Tryd
open Go.Proofs
set_option linter.unusedVariables false
set_option linter.unusedSimpArgs false
set_option maxHeartbeats 4000000
set_option maxRecDepth 100000

def man1 : Man := ⟨1, 0, 9, []⟩
def ten : List UInt8 := [128, 8, 1, 1, 1, 2, 0, 3, 1, 9]
def exFs : List NFile := [⟨[98], [121]⟩, ⟨[97], [120]⟩]
def exGs : List NFile := [⟨[99], [122]⟩, ⟨[98], [121]⟩]
def two : Man := ⟨1, 0, 9, [⟨[97], sha [120]⟩, ⟨[98], sha [121]⟩]⟩
theorem num_enc {t : UInt8} {v : Nat} (b : UInt8) (h : be v = [b]) : (numO t v).enc = [t, 1, b] := by
  rw [numO, h, enc_mk, encL_nil]; rfl
theorem man1_check : check man1 = 0 := by kernel_rfl
theorem man1_o : (manO man1).enc = ten := by
  have h0 : manO man1 = .mk 128 [] [numO 1 1, numO 2 0, numO 3 9] := rfl
  have e1 : (numO 1 1).enc = [1, 1, 1] := num_enc 1 (by decide)
  have e2 : (numO 2 0).enc = [2, 0] := by
    have : be 0 = [] := by decide
    rw [numO, this, enc_mk, encL_nil]; rfl
  have e3 : (numO 3 9).enc = [3, 1, 9] := num_enc 9 (by decide)
  rw [h0, enc_mk, encL_cons, encL_cons, encL_cons, encL_nil, e1, e2, e3]
  rfl
theorem man1_enc : manEnc man1 = (ten, 0) := by
  have h := man1_check
  have hk := manO_check (m := man1) h (by decide)
  unfold manEnc
  rw [if_neg (by rw [h]; decide), if_pos hk, man1_o]
theorem ten_dec : decR ten = .tup [man1.av .no, .int .i64 0] := by
  have h := dec_enc (m := man1) man1_check (by decide) (by decide)
  rw [man1_o] at h
  unfold decR
  rw [h]
  rfl
theorem two_make : makeM 1 0 9 exFs = two ∧ makeE 0 9 exFs = 0 := by
  have h0 : makeE 0 9 exFs = 0 := by kernel_rfl
  have hs : sortB (names exFs) = [[97], [98]] := (sortB_unique (xs := [[97], [98]]) (List.Perm.swap _ _ _) (by decide)).symm
  refine ⟨?_, h0⟩
  rw [makeM, if_pos h0, makeFs, hs]
  rfl
theorem two_match : matchR two exGs = ⟨[[97]], [], [[99]]⟩ ∧ matchE two exGs = 0 := by
  have h0 : matchE two exGs = 0 := by kernel_rfl
  refine ⟨?_, h0⟩
  have h1 : fnames (two.fs.filter (missF exGs)) = [[97]] := by kernel_rfl
  have h2 : fnames (two.fs.filter (wrongF exGs)) = [] := by
    have e1 : wrongF exGs ⟨[97], sha [120]⟩ = false := by rfl
    have e2 : wrongF exGs ⟨[98], sha [121]⟩ = false := by
      have : hashOf exGs [98] = ⟨[98], sha [121]⟩ := rfl
      rw [wrongF, this, heq_refl]; rfl
    show fnames (List.filter (wrongF exGs) [⟨[97], sha [120]⟩, ⟨[98], sha [121]⟩]) = []
    rw [List.filter_cons, if_neg (by rw [e1]; decide), List.filter_cons, if_neg (by rw [e2]; decide)]; rfl
  have h3 : sortB ((names exGs).filter fun k => !(fnames two.fs).contains k) = [[99]] := by
    have : ((names exGs).filter fun k => !(fnames two.fs).contains k) = [[99]] := by kernel_rfl
    rw [this]
    exact (sortB_unique (xs := [[99]]) (List.Perm.refl _) (by decide)).symm
  rw [matchR, if_pos h0, h1, h2, h3]

theorem zz : ¬ (((0 : Int) == 0) = false) := by decide
theorem alive_A (H : List AObj) : CallsA E 20 [] H (Is H (.bool true)) := by
  have hE : ∀ H, CallsA E 21 [.agg [.int .u64 1, .int .i64 0, .int .i64 9, .sl .full 0 []]] H (Is H (.tup [.sl .no 1 (ten.map byteRow), .int .i64 0])) := fun H => by
    have := manEncode_A man1 H (by decide) (by decide) (by decide)
    rw [man1_enc] at this
    exact CallsA.subL (vs := [man1.av .no]) ⟨Sub.agg (vs := [.int .u64 1, .int .i64 0, .int .i64 9, .sl .no 33 []]) ⟨Sub.refl _, Sub.refl _, Sub.refl _, Sub.empty, trivial⟩, trivial⟩ this
  have hD : ∀ H, CallsA E 22 [.sl .full 1 (ten.map byteRow)] H (Is H (.tup [man1.av .no, .int .i64 0])) := fun H => by
    have := manDecode_A ten H (by decide)
    rw [ten_dec] at this
    exact CallsA.subL (vs := [.sl .no 1 (ten.map byteRow)]) ⟨Sub.untag, trivial⟩ this
  have hF := fun (n b : List UInt8) H (hb : b.length ≤ 140737488355328) => file_A n b H hb
  have hM : ∀ H, CallsA E 13 [.int .u64 1, .agg [.int .i64 0, .int .i64 9], .sl .full 2 (nrows exFs)] H (Is H (.tup [two.av .no, .int .i64 0])) := fun H => by
    have := make_A 1 0 9 exFs H (by decide) (by decide)
    rw [two_make.1, two_make.2] at this
    exact CallsA.subL (vs := [.int .u64 1, .agg [.int .i64 0, .int .i64 9], .sl .no 2 (nrows exFs)]) ⟨Sub.refl _, Sub.refl _, Sub.untag, trivial⟩ this
  have hR : ∀ H, CallsA E 15 [two.av .no, .sl .full 2 (nrows exGs)] H (Is H (.tup [Rep.av ⟨[[97]], [], [[99]]⟩, .int .i64 0])) := fun H => by
    have := match_A two exGs H (by decide) (by decide) (by decide)
    rw [two_match.1, two_match.2] at this
    exact CallsA.subL (vs := [two.av .no, .sl .no 2 (nrows exGs)]) ⟨Sub.refl _, Sub.untag, trivial⟩ this
  have hB : ∀ H, CallsA E 24 [.sl .no 1 (ten.map byteRow), .sl .full 1 (ten.map byteRow)] H (Is H (.bool true)) := fun H => by
    have := sameBytes_A ten ten .no .full H (by decide)
    simpa using this
  have hS : ∀ H, CallsA E 17 [man1.av .no, .agg [.int .u64 1, .int .i64 0, .int .i64 9, .sl .full 0 []]] H (Is H (.bool true)) := fun H => by
    have := refSame_A man1 man1 H (by decide)
    rw [same_refl] at this
    exact CallsA.subL (vs := [man1.av .no, man1.av .no]) ⟨Sub.refl _, Sub.agg (vs := [.int .u64 1, .int .i64 0, .int .i64 9, .sl .no 33 []]) ⟨Sub.refl _, Sub.refl _, Sub.refl _, Sub.empty, trivial⟩, trivial⟩ this
  have hP : ∀ H, CallsA E 18 [Rep.av ⟨[[97]], [], [[99]]⟩, .agg [.sl .full 1 (strs [[97]]), .sl .full 0 [], .sl .full 1 (strs [[99]])]] H (Is H (.bool true)) := fun H => by
    have := sameReport_A ⟨[[97]], [], [[99]]⟩ ⟨[[97]], [], [[99]]⟩ H (by decide) (by decide) (by decide)
    have e : sameRep ⟨[[97]], [], [[99]]⟩ ⟨[[97]], [], [[99]]⟩ = true := by decide
    rw [e] at this
    exact CallsA.subL (vs := [Rep.av ⟨[[97]], [], [[99]]⟩, Rep.av ⟨[[97]], [], [[99]]⟩]) ⟨Sub.refl _, Sub.agg (vs := [.sl .no 1 (strs [[97]]), .sl .no 1 (strs []), .sl .no 1 (strs [[99]])]) ⟨Sub.untag, Sub.empty, Sub.untag, trivial⟩, trivial⟩ this
  refine .enter Tryd.func20 rfl rfl rfl 84 Tryd.ntmps20 (Nat.le_of_ble_eq_true rfl) ?_
  repeat' first
    | refine WpA.drawI [H.length + 1] [4, 0, 0, 0, 0, 0, 0, 0, 3, 2, 0] (by kernel_rfl) (by kernel_rfl) ?_
    | refine WpA.seq ?_
    | refine WpA.region ?_
    | refine WpOps.op _ rfl rfl rfl rfl rfl ?_
    | refine WpOps.alloc _ rfl rfl rfl rfl rfl rfl ?_
    | refine WpOps.store rfl rfl rfl rfl rfl rfl rfl rfl rfl rfl ?_
    | refine WpOps.build _ rfl rfl rfl rfl rfl ?_
    | (refine WpOps.call rfl rfl rfl rfl rfl (by exact hE _) ?_; rintro _ _ ⟨rfl, rfl⟩)
    | (refine WpOps.call rfl rfl rfl rfl rfl (by exact hD _) ?_; rintro _ _ ⟨rfl, rfl⟩)
    | (refine WpOps.call rfl rfl rfl rfl rfl (by exact hF _ _ _ (by decide)) ?_; rintro _ _ ⟨rfl, rfl⟩)
    | (refine WpOps.call rfl rfl rfl rfl rfl (by exact hM _) ?_; rintro _ _ ⟨rfl, rfl⟩)
    | (refine WpOps.buildSlice _ rfl rfl rfl rfl rfl rfl rfl rfl rfl rfl rfl ?_)
    | refine WpOps.nil ?_

  repeat' first
    | exact absurd (by assumption) zz
    | refine WpA.seq ?_
    | refine WpA.region ?_
    | refine WpOps.op _ rfl rfl rfl rfl rfl ?_
    | (refine LexH.alloc3 _ rfl rfl rfl rfl rfl rfl rfl ?_)
    | refine WpOps.gsplit _ rfl rfl rfl (fun h => ?_) (fun h => ?_)
    | refine LexH.op0 _ rfl rfl rfl rfl rfl (fun _ => rfl) ?_
    | refine LexH.load4 _ rfl rfl rfl rfl rfl rfl (by simp) rfl rfl rfl rfl ?_
    | refine LexH.buildSlice _ rfl rfl rfl rfl rfl rfl rfl rfl rfl rfl rfl rfl ?_
    | refine LexH.store rfl rfl rfl rfl rfl rfl rfl rfl rfl rfl rfl ?_
    | refine LexH.call0 rfl rfl rfl rfl rfl rfl (fun _ => by exact hF _ _ _ (by decide)) ?_
    | refine LexH.call0 rfl rfl rfl rfl rfl rfl (fun _ => by exact hR _) ?_
    | refine LexH.nil ?_

  repeat' first
    | (refine WpOps.buildSlice (len := 10) (ten.map u8) rfl rfl rfl rfl rfl rfl (by kernel_rfl) (by kernel_rfl) rfl rfl rfl ?_)
    | refine WpA.seq ?_
    | refine WpA.region ?_
    | refine WpOps.op _ rfl rfl rfl rfl rfl ?_
    | refine WpOps.build _ rfl rfl rfl rfl rfl ?_
    | (refine WpOps.call rfl rfl rfl rfl rfl (by exact hB _) ?_; rintro _ _ ⟨rfl, rfl⟩)
    | (refine WpOps.call rfl rfl rfl rfl rfl (by exact hS _) ?_; rintro _ _ ⟨rfl, rfl⟩)
    | (refine WpOps.call rfl rfl rfl rfl rfl (by exact hP _) ?_; rintro _ _ ⟨rfl, rfl⟩)
    | (refine WpOps.buildSlice _ rfl rfl rfl rfl rfl rfl rfl rfl rfl rfl rfl ?_)
    | (refine WpOps.elem (File.row ⟨[97], sha [120]⟩) rfl rfl rfl rfl rfl rfl rfl rfl rfl (by decide) rfl ?_)
    | refine WpOps.nil ?_
    | refine WpA.ret ?_
  exact retK.ok («as» := [.bool true]) (by kernel_rfl) (by kernel_rfl) rfl .bool
end Go.Gp.Tryd

/- Manifests and files: what Exact and Changes ask, in plain terms. -/
namespace Go.Gp.Tryd
open Go.Proofs
set_option linter.unusedVariables false
set_option linter.unusedSimpArgs false
set_option maxHeartbeats 4000000

theorem eqAL_iff : ∀ {l l' : List AV}, (∀ a ∈ l, ∃ v, a = .int .u8 v) → (∀ a ∈ l', ∃ v, a = .int .u8 v) → (eqAL l l' = true ↔ l = l')
  | [], [], _, _ => ⟨fun _ => rfl, fun _ => rfl⟩
  | [], _ :: _, _, _ => by constructor <;> intro h <;> cases h
  | _ :: _, [], _, _ => by constructor <;> intro h <;> cases h
  | a :: l, b :: l', h, h' => by
    obtain ⟨v, rfl⟩ := h _ List.mem_cons_self
    obtain ⟨w, rfl⟩ := h' _ List.mem_cons_self
    have ih := eqAL_iff (fun a ha => h a (List.mem_cons_of_mem _ ha)) (fun a ha => h' a (List.mem_cons_of_mem _ ha))
    show ((v == w) && eqAL l l') = true ↔ _
    rw [Bool.and_eq_true, ih, beq_iff_eq]
    constructor
    · rintro ⟨rfl, rfl⟩; rfl
    · intro e; injection e with e1 e2; injection e1 with _ e1; exact ⟨e1, e2⟩
theorem heq_iff {f g : File} : heq f g = true ↔ f.hash = g.hash := eqAL_iff (hash_int f) (hash_int g)
theorem heq_symm (f g : File) : heq f g = heq g f := by
  rw [Bool.eq_iff_iff, heq_iff, heq_iff]; exact eq_comm
theorem feq_iff {f g : File} : feq f g = true ↔ f.name = g.name ∧ heq f g = true := by
  rw [feq]; simp

theorem bytesAt_none {fs : List NFile} {n : List UInt8} (h : n ∉ names fs) : bytesAt fs n = [] := by
  have : fs.find? (fun f => f.name == n) = none := by
    rw [List.find?_eq_none]
    intro f hf e
    have e' : f.name = n := by simpa using e
    exact h (e' ▸ mem_names hf)
  rw [bytesAt, this]; rfl
theorem mem_names_iff {fs : List NFile} {n : List UInt8} : n ∈ names fs ↔ ∃ f ∈ fs, f.name = n := List.mem_map
theorem names_perm {fs gs : List NFile} (h : gs.Perm fs) : (names gs).Perm (names fs) := h.map _
theorem bytesAt_perm {fs gs : List NFile} (h : gs.Perm fs) (hn : (names fs).Nodup) (n : List UInt8) : bytesAt gs n = bytesAt fs n := by
  have hn' : (names gs).Nodup := (names_perm h).nodup_iff.2 hn
  by_cases hm : n ∈ names fs
  · obtain ⟨f, hf, rfl⟩ := mem_names_iff.1 hm
    rw [bytesAt_of hf hn, bytesAt_of (h.mem_iff.2 hf) hn']
  · rw [bytesAt_none hm, bytesAt_none (fun h' => hm ((names_perm h).mem_iff.1 h'))]
theorem byNameE_perm {fs gs : List NFile} (h : gs.Perm fs) : byNameE gs = byNameE fs := by
  have h1 := h.length_eq
  have h2 : badName gs = badName fs := h.any_eq
  have h3 : (names gs).Nodup ↔ (names fs).Nodup := (names_perm h).nodup_iff
  unfold byNameE
  rw [h1, h2]
  simp only [h3]
theorem makeE_perm {a b : Int} {fs gs : List NFile} (h : gs.Perm fs) : makeE a b gs = makeE a b fs := by
  unfold makeE; rw [byNameE_perm h]
theorem hashOf_perm {fs gs : List NFile} (h : gs.Perm fs) (hn : (names fs).Nodup) (n : List UInt8) : hashOf gs n = hashOf fs n := by
  rw [hashOf, hashOf, bytesAt_perm h hn]
theorem makeFs_perm {fs gs : List NFile} (h : gs.Perm fs) (hn : (names fs).Nodup) : makeFs gs = makeFs fs := by
  rw [makeFs, makeFs, sortB_congr (names_perm h)]
  exact List.map_congr_left fun n _ => hashOf_perm h hn n
theorem makeM_perm {v a b : Int} {fs gs : List NFile} (h : gs.Perm fs) (he : makeE a b fs = 0) : makeM v a b gs = makeM v a b fs := by
  rw [make_ok he, make_ok ((makeE_perm h).trans he), makeFs_perm h (byNameE_ok (makeE_win he).2).2.2]

theorem sortB_nil : sortB [] = [] := (sortB_unique (List.Perm.refl _) List.Pairwise.nil).symm
theorem sortB_one (s : List UInt8) : sortB [s] = [s] := (sortB_unique (List.Perm.refl _) (List.pairwise_singleton _ _)).symm
theorem sortB_eq_nil {ss : List (List UInt8)} : sortB ss = [] ↔ ss = [] := by
  constructor
  · intro h
    have := (sortB_perm ss).length_eq
    rw [h] at this
    exact List.length_eq_zero_iff.1 this.symm
  · rintro rfl; exact sortB_nil
/-- The report is empty exactly if names and digests are the same. -/
theorem sameRep_nil {r : Rep} : sameRep r rep0 = true ↔ r.miss = [] ∧ r.wrong = [] ∧ r.extra = [] := by
  rw [sameRep]
  simp [rep0]
theorem emptied {v a b : Int} {fs gs : List NFile} (he : makeE a b fs = 0) (hg : byNameE gs = 0) :
    sameRep (matchR (makeM v a b fs) gs) rep0 = true ↔ (∀ n, n ∈ names fs ↔ n ∈ names gs) ∧ ∀ n ∈ names fs, heq (hashOf gs n) (hashOf fs n) = true := by
  rw [sameRep_nil, matchR_make he hg]
  simp only [sortB_eq_nil, List.filter_eq_nil_iff, mem_sortB, badB, inB, Bool.not_eq_true', decide_eq_false_iff_not, Decidable.not_not, Bool.and_eq_true, decide_eq_true_eq, not_and, Bool.not_eq_false]
  constructor
  · rintro ⟨h1, h2, h3⟩
    exact ⟨fun n => ⟨h1 n, h3 n⟩, fun n hn => h2 n hn (h1 n hn)⟩
  · rintro ⟨h1, h2⟩
    exact ⟨fun n hn => (h1 n).1 hn, fun n hn _ => h2 n hn, fun n hn => (h1 n).2 hn⟩
theorem eqFs_map (fs gs : List NFile) : ∀ ns ms : List (List UInt8), eqFs (ns.map (hashOf fs)) (ms.map (hashOf gs)) = true ↔ ns = ms ∧ ∀ n ∈ ns, heq (hashOf fs n) (hashOf gs n) = true
  | [], [] => by simp [eqFs]
  | [], _ :: _ => by simp [eqFs]
  | _ :: _, [] => by simp [eqFs]
  | n :: ns, m :: ms => by
    rw [List.map_cons, List.map_cons, eqFs, Bool.and_eq_true, eqFs_map fs gs ns ms, feq_iff]
    show ((n = m ∧ _) ∧ _) ↔ _
    constructor
    · rintro ⟨⟨rfl, h1⟩, rfl, h2⟩
      exact ⟨rfl, fun k hk => by rcases List.mem_cons.1 hk with rfl | hk; exact h1; exact h2 k hk⟩
    · rintro ⟨e, h⟩
      injection e with e1 e2
      subst e1; subst e2
      exact ⟨⟨rfl, h _ List.mem_cons_self⟩, rfl, fun k hk => h k (List.mem_cons_of_mem _ hk)⟩
theorem exact_law {v a b : Int} {fs gs : List NFile} (he : makeE a b fs = 0) (hg : makeE a b gs = 0) :
    sameRep (matchR (makeM v a b fs) gs) rep0 = same (makeM v a b fs) (makeM v a b gs) := by
  have hg' := (makeE_win hg).2
  have n1 := (byNameE_ok (makeE_win he).2).2.2
  have n2 := (byNameE_ok hg').2.2
  rw [Bool.eq_iff_iff, emptied he hg', make_ok he, make_ok hg]
  have hs : same ⟨v, a, b, makeFs fs⟩ ⟨v, a, b, makeFs gs⟩ = eqFs (makeFs fs) (makeFs gs) := by
    unfold same weq; simp
  rw [hs, makeFs, makeFs, eqFs_map]
  constructor
  · rintro ⟨h1, h2⟩
    exact ⟨sortB_congr ((List.perm_ext_iff_of_nodup n1 n2).2 h1), fun n hn => by rw [heq_symm]; exact h2 n (mem_sortB.1 hn)⟩
  · rintro ⟨h1, h2⟩
    have hm : ∀ n, n ∈ names fs ↔ n ∈ names gs := fun n => by rw [← mem_sortB, h1, mem_sortB]
    exact ⟨hm, fun n hn => by rw [heq_symm]; exact h2 n (mem_sortB.2 hn)⟩
theorem match_perm {v a b : Int} {fs gs : List NFile} (he : makeE a b fs = 0) (h : gs.Perm fs) : sameRep (matchR (makeM v a b fs) gs) rep0 = true := by
  rw [exact_law he ((makeE_perm h).trans he), makeM_perm h he, same_refl]

/-- A file taken away. -/
theorem filter_one {α : Type} {l : List α} {x : α} {p : α → Bool} (hn : l.Nodup) (hx : x ∈ l) (hp : ∀ y ∈ l, p y = true ↔ y = x) : l.filter p = [x] := by
  induction l with
  | nil => cases hx
  | cons y l ih =>
    obtain ⟨h1, h2⟩ := List.nodup_cons.1 hn
    rw [List.filter_cons]
    rcases List.mem_cons.1 hx with e | hx
    · subst e
      rw [if_pos ((hp _ List.mem_cons_self).2 rfl), List.filter_eq_nil_iff.2]
      intro z hz hpz
      have := (hp z (List.mem_cons_of_mem _ hz)).1 hpz
      subst this
      exact h1 hz
    · have : ¬ p y = true := fun e => by
        have := (hp y List.mem_cons_self).1 e
        subst this
        exact h1 hx
      rw [if_neg this]
      exact ih h2 hx fun z hz => hp z (List.mem_cons_of_mem _ hz)
theorem filter_none {α : Type} {l : List α} {p : α → Bool} (hp : ∀ y ∈ l, p y = false) : l.filter p = [] :=
  List.filter_eq_nil_iff.2 fun y hy e => by rw [hp y hy] at e; cases e
theorem nodup_sortB {ss : List (List UInt8)} (h : ss.Nodup) : (sortB ss).Nodup := (sortB_perm ss).nodup_iff.2 h
theorem byNameE_zero {fs : List NFile} (h1 : fs.length ≤ 200) (h2 : badName fs = false) (h3 : (names fs).Nodup) : byNameE fs = 0 := by
  unfold byNameE
  rw [if_neg (by omega), if_neg (by rw [h2]; decide), if_pos h3]
theorem sub_names {fs gs : List NFile} (h : gs.Sublist fs) : (names gs).Sublist (names fs) := h.map _
theorem byNameE_sub {fs gs : List NFile} (h : gs.Sublist fs) (he : byNameE fs = 0) : byNameE gs = 0 := by
  obtain ⟨h1, h2, h3⟩ := byNameE_ok he
  refine byNameE_zero (Nat.le_trans h.length_le h1) ?_ (h3.sublist (sub_names h))
  rw [badName, List.any_eq_false] at h2 ⊢
  exact fun f hf => h2 f (h.subset hf)
theorem hashOf_sub {fs gs : List NFile} (h : gs.Sublist fs) (hn : (names fs).Nodup) {n : List UInt8} (hm : n ∈ names gs) : hashOf gs n = hashOf fs n := by
  obtain ⟨f, hf, rfl⟩ := mem_names_iff.1 hm
  rw [hashOf_of hf (hn.sublist (sub_names h)), hashOf_of (h.subset hf) hn]
theorem names_erase {fs : List NFile} {i : Nat} (hi : i < fs.length) (hn : (names fs).Nodup) (n : List UInt8) : n ∈ names (fs.take i ++ fs.drop (i + 1)) ↔ n ∈ names fs ∧ n ≠ fs[i].name := by
  have hp : (fs[i] :: (fs.take i ++ fs.drop (i + 1))).Perm fs := by
    have e : fs = fs.take i ++ (fs[i] :: fs.drop (i + 1)) := by rw [← List.drop_eq_getElem_cons hi, List.take_append_drop]
    exact (List.perm_middle.symm).trans (by rw [← e])
  have hnn : (fs[i].name :: names (fs.take i ++ fs.drop (i + 1))).Nodup := (names_perm hp).nodup_iff.2 hn
  have hm : n ∈ names fs ↔ n ∈ fs[i].name :: names (fs.take i ++ fs.drop (i + 1)) := (names_perm hp).mem_iff.symm
  rw [hm, List.mem_cons]
  obtain ⟨h1, _⟩ := List.nodup_cons.1 hnn
  constructor
  · intro h; exact ⟨.inr h, fun e => h1 (e ▸ h)⟩
  · rintro ⟨rfl | h, h2⟩
    · exact absurd rfl h2
    · exact h
theorem erase_sub (fs : List NFile) (i : Nat) : (fs.take i ++ fs.drop (i + 1)).Sublist fs := by
  have := List.Sublist.append (List.Sublist.refl (fs.take i)) (List.drop_sublist_drop_left fs (Nat.le_succ i))
  rwa [List.take_append_drop] at this
theorem less_law {v a b : Int} {fs : List NFile} (he : makeE a b fs = 0) {i : Nat} (hi : i < fs.length) :
    matchE (makeM v a b fs) (fs.take i ++ fs.drop (i + 1)) = 0 ∧ matchR (makeM v a b fs) (fs.take i ++ fs.drop (i + 1)) = ⟨[fs[i].name], [], []⟩ := by
  have hb := (makeE_win he).2
  have hn := (byNameE_ok hb).2.2
  have hs := erase_sub fs i
  have hg := byNameE_sub hs hb
  have hm := names_erase hi hn
  refine ⟨by rw [matchE_make he, hg], ?_⟩
  rw [matchR_make he hg]
  congr 1
  · refine filter_one (nodup_sortB hn) (mem_sortB.2 (mem_names (List.getElem_mem hi))) fun n hn' => ?_
    have h1 := mem_sortB.1 hn'
    simp only [inB, Bool.not_eq_true', decide_eq_false_iff_not, hm n]
    constructor
    · intro h; exact Decidable.byContradiction fun e => h ⟨h1, e⟩
    · rintro rfl h; exact h.2 rfl
  · refine filter_none fun n hn' => ?_
    simp only [badB, inB, Bool.and_eq_false_iff, decide_eq_false_iff_not, Bool.not_eq_false']
    by_cases h : n ∈ names (fs.take i ++ fs.drop (i + 1))
    · right; rw [hashOf_sub hs hn h, heq_refl]
    · exact .inl h
  · rw [filter_none fun n hn' => ?_, sortB_nil]
    simp only [inB, Bool.not_eq_false', decide_eq_true_eq]
    exact ((hm n).1 hn').1

/-- A file with other bytes. -/
theorem names_set {fs : List NFile} {i : Nat} (hi : i < fs.length) (c : List UInt8) : names (fs.set i ⟨fs[i].name, c⟩) = names fs := by
  apply List.ext_getElem?
  intro k
  rw [names, names, List.getElem?_map, List.getElem?_map, List.getElem?_set]
  by_cases h : i = k
  · subst h; simp [hi]
  · simp [h]
theorem set_law {v a b : Int} {fs : List NFile} (he : makeE a b fs = 0) {i : Nat} (hi : i < fs.length) (c : List UInt8) :
    matchE (makeM v a b fs) (fs.set i ⟨fs[i].name, c⟩) = 0 ∧ matchR (makeM v a b fs) (fs.set i ⟨fs[i].name, c⟩) = ⟨[], if heq ⟨fs[i].name, sha c⟩ ⟨fs[i].name, sha fs[i].bytes⟩ then [] else [fs[i].name], []⟩ := by
  have hb := (makeE_win he).2
  obtain ⟨b1, b2, hn⟩ := byNameE_ok hb
  have hnm := names_set hi c
  have hn' : (names (fs.set i ⟨fs[i].name, c⟩)).Nodup := by rw [hnm]; exact hn
  have hbad : badName (fs.set i ⟨fs[i].name, c⟩) = badName fs := by
    have e : ∀ l : List NFile, badName l = (names l).any fun n => !name n := fun l => by rw [badName, names, List.any_map]; rfl
    rw [e, e, hnm]
  have hg : byNameE (fs.set i ⟨fs[i].name, c⟩) = 0 := byNameE_zero (by rw [List.length_set]; exact b1) (by rw [hbad]; exact b2) hn'
  refine ⟨by rw [matchE_make he, hg], ?_⟩
  have hin : ∀ n, inB (fs.set i ⟨fs[i].name, c⟩) n = inB fs n := fun n => by rw [inB, inB, hnm]
  have hset : (⟨fs[i].name, c⟩ : NFile) ∈ fs.set i ⟨fs[i].name, c⟩ := List.mem_of_getElem? (i := i) (by rw [List.getElem?_set]; simp [hi])
  have hoi : hashOf (fs.set i ⟨fs[i].name, c⟩) fs[i].name = ⟨fs[i].name, sha c⟩ := hashOf_of hset hn'
  have hfi : hashOf fs fs[i].name = ⟨fs[i].name, sha fs[i].bytes⟩ := hashOf_of (List.getElem_mem hi) hn
  have hoth : ∀ n ∈ names fs, n ≠ fs[i].name → hashOf (fs.set i ⟨fs[i].name, c⟩) n = hashOf fs n := fun n h1 h2 => by
    obtain ⟨f, hf, rfl⟩ := mem_names_iff.1 h1
    have hf' : f ∈ fs.set i ⟨fs[i].name, c⟩ := by
      obtain ⟨k, hk⟩ := List.getElem?_of_mem hf
      refine List.mem_of_getElem? (i := k) ?_
      rw [List.getElem?_set]
      by_cases h : i = k
      · subst h
        rw [List.getElem?_eq_getElem hi] at hk
        injection hk with hk
        exact absurd (by rw [hk]) h2
      · simp [h, hk]
    rw [hashOf_of hf' hn', hashOf_of hf hn]
  rw [matchR_make he hg]
  congr 1
  · refine filter_none fun n h => ?_
    rw [hin]
    simp [inB, mem_sortB.1 h]
  · cases hq : heq ⟨fs[i].name, sha c⟩ ⟨fs[i].name, sha fs[i].bytes⟩ with
    | true =>
      rw [if_pos rfl]
      refine filter_none fun n h => ?_
      have h1 := mem_sortB.1 h
      rw [badB]
      by_cases e : n = fs[i].name
      · rw [e, hoi, hfi, hq]; simp
      · rw [hoth n h1 e, heq_refl]; simp
    | false =>
      rw [if_neg (by decide)]
      refine filter_one (nodup_sortB hn) (mem_sortB.2 (mem_names (List.getElem_mem hi))) fun n h => ?_
      have h1 := mem_sortB.1 h
      rw [badB, hin]
      by_cases e : n = fs[i].name
      · rw [e, hoi, hfi, hq]; simp [inB, mem_names (List.getElem_mem hi)]
      · rw [hoth n h1 e, heq_refl]; simp [e]
  · rw [hnm, filter_none fun n h => ?_, sortB_nil]
    simp [inB, h]

/-- A file added. -/
theorem more_ok {v a b : Int} {fs : List NFile} (he : makeE a b fs = 0) (f : NFile) (hg : byNameE (fs ++ [f]) = 0) :
    f.name ∉ names fs ∧ matchR (makeM v a b fs) (fs ++ [f]) = ⟨[], [], [f.name]⟩ := by
  have hb := (makeE_win he).2
  have hn := (byNameE_ok hb).2.2
  have hn' := (byNameE_ok hg).2.2
  have hnm : names (fs ++ [f]) = names fs ++ [f.name] := by rw [names, List.map_append]; rfl
  have hno : f.name ∉ names fs := fun h => by
    rw [hnm] at hn'
    exact (List.nodup_append.1 hn').2.2 _ h _ (List.mem_singleton.2 rfl) rfl
  refine ⟨hno, ?_⟩
  have hs : fs.Sublist (fs ++ [f]) := List.sublist_append_left _ _
  rw [matchR_make he hg]
  congr 1
  · refine filter_none fun n h => ?_
    have := mem_sortB.1 h
    simp [inB, hnm, this]
  · refine filter_none fun n h => ?_
    rw [badB, ← hashOf_sub hs hn' (mem_sortB.1 h), heq_refl]; simp
  · have : (names (fs ++ [f])).filter (fun n => !inB fs n) = [f.name] := by
      rw [hnm, List.filter_append, filter_none fun n h => by simp [inB, h]]
      simp [inB, hno]
    rw [this, sortB_one]
theorem more_no {fs : List NFile} (hb : byNameE fs = 0) (f : NFile) (hg : byNameE (fs ++ [f]) ≠ 0) : byNameE (fs ++ [f]) = 4 ∨ byNameE (fs ++ [f]) = 8 ∨ byNameE (fs ++ [f]) = 14 ∧ f.name ∈ names fs := by
  have hn := (byNameE_ok hb).2.2
  unfold byNameE at hg ⊢
  split
  · exact .inl rfl
  · rename_i h1
    rw [if_neg h1] at hg
    split
    · exact .inr (.inl rfl)
    · rename_i h2
      rw [if_neg h2] at hg
      split
      · rename_i h3; rw [if_pos h3] at hg; exact absurd rfl hg
      · rename_i h3
        refine .inr (.inr ⟨rfl, Decidable.byContradiction fun hno => h3 ?_⟩)
        rw [names, List.map_append]
        refine List.nodup_append.2 ⟨hn, List.nodup_cons.2 ⟨List.not_mem_nil, List.nodup_nil⟩, fun x hx y hy e => ?_⟩
        have := List.mem_singleton.1 hy
        subst e; subst this
        exact hno hx
end Go.Gp.Tryd

/- The law ManifestExact: its walk. -/
namespace Go.Gp.Tryd
open Go.Proofs
set_option linter.unusedVariables false
set_option linter.unusedSimpArgs false
set_option maxHeartbeats 4000000
set_option maxRecDepth 100000

theorem emptyRep_A (r : Rep) (H : List AObj) (h1 : r.miss.length ≤ 1125899906842624) (h2 : r.wrong.length ≤ 1125899906842624) (h3 : r.extra.length ≤ 1125899906842624) :
    CallsA E 18 [r.av, .agg [.sl .full 0 [], .sl .full 0 [], .sl .full 0 []]] H (Is H (.bool (sameRep r rep0))) :=
  CallsA.subL (vs := [r.av, rep0.av]) ⟨Sub.refl _, Sub.agg (vs := [.sl .no 1 (strs []), .sl .no 1 (strs []), .sl .no 1 (strs [])]) ⟨Sub.empty, Sub.empty, Sub.empty, trivial⟩, trivial⟩ (sameReport_A r rep0 H h1 h2 h3)
theorem nrows_two (fs : List NFile) : ∀ x ∈ nrows fs, x.length = 2 := fun x hx => by
  obtain ⟨f, _, rfl⟩ := List.mem_map.1 hx; rfl
theorem nrows_one (fs : List NFile) : ∀ y ∈ nrows fs, ∀ a ∈ y, a.one = true := fun y hy a ha => by
  obtain ⟨f, _, rfl⟩ := List.mem_map.1 hy
  simp only [NFile.row, List.mem_cons, List.not_mem_nil, or_false] at ha
  rcases ha with rfl | rfl <;> rfl
theorem nrows_set (fs : List NFile) (i : Nat) (f : NFile) : (nrows fs).set i f.row = nrows (fs.set i f) := by rw [nrows, nrows, List.map_set]
theorem put_file {fs : List NFile} {i : Nat} (hi : i < fs.length) (f : NFile) : putA (nrows fs).flatten (i * 2) f.row = (nrows (fs.set i f)).flatten := by
  rw [putA_row (nrows_two fs) rfl (Nat.le_refl 2) (by rw [nrows_len]; exact hi), nrows_set]
theorem matchR_len {v a b : Int} {fs : List NFile} (h : makeE a b fs = 0) {gs : List NFile} (hg : byNameE gs = 0) :
    (matchR (makeM v a b fs) gs).miss.length ≤ 1125899906842624 ∧ (matchR (makeM v a b fs) gs).wrong.length ≤ 1125899906842624 ∧ (matchR (makeM v a b fs) gs).extra.length ≤ 1125899906842624 := by
  have h1 := (byNameE_ok (makeE_win h).2).1
  have h2 := (byNameE_ok hg).1
  have e : ∀ l : List (List UInt8), (sortB l).length = l.length := fun l => (sortB_perm l).length_eq
  have e1 : (sortB (names fs)).length = fs.length := by rw [e, names, List.length_map]
  rw [matchR_make h hg]
  refine ⟨?_, ?_, ?_⟩
  · have := List.length_filter_le (fun n => !inB gs n) (sortB (names fs)); show (List.filter _ _).length ≤ _; omega
  · have := List.length_filter_le (badB fs gs) (sortB (names fs)); show (List.filter _ _).length ≤ _; omega
  · have := List.length_filter_le (fun n => !inB fs n) (names gs)
    show (sortB _).length ≤ _
    rw [e]
    have e2 : (names gs).length = gs.length := by rw [names, List.length_map]
    omega
/-- Two files exchanged, if both are there. -/
def swapped (fs : List NFile) (i k : Int) : List NFile :=
  if h : 0 ≤ i ∧ 0 ≤ k ∧ i.toNat < fs.length ∧ k.toNat < fs.length then (fs.set i.toNat (fs[k.toNat]'h.2.2.2)).set k.toNat (fs[i.toNat]'h.2.2.1) else fs
theorem swapped_perm (fs : List NFile) (i k : Int) : (swapped fs i k).Perm fs := by
  unfold swapped
  split
  · rename_i h; exact List.set_set_perm h.2.2.1 h.2.2.2
  · exact List.Perm.refl _

theorem exact_A (v a b : Int) (fs os : List NFile) (i k : Int) (H : List AObj) (hl : fs.length ≤ 1000000000000000) (hlo : os.length ≤ 1000000000000000) (hi : -9223372036854775808 ≤ i ∧ i ≤ 9223372036854775807) (hk : -9223372036854775808 ≤ k ∧ k ≤ 9223372036854775807) :
    CallsA E 5 [.int .u64 v, .agg [.int .i64 a, .int .i64 b], .sl .no 2 (nrows fs), .sl .no 2 (nrows os), .int .i64 i, .int .i64 k] H (Is H (.bool true)) := by
  have hlen := nrows_len fs
  have hA := fun H => alive_A H
  have hG := fun H => greatFiles_A fs H hl
  have hG2 := fun H => greatFiles_A os H hlo
  refine .enter Tryd.func5 rfl rfl rfl 166 Tryd.ntmps5 (Nat.le_of_ble_eq_true rfl) ?_
  cases hg : greatFs fs with
  | true =>
    rw [hg] at hG
    repeat' first
      | refine WpA.seq ?_
      | refine WpA.region ?_
      | refine WpOps.op _ rfl rfl rfl rfl rfl ?_
      | refine WpOps.box _ rfl rfl rfl rfl rfl ?_
      | refine WpOps.skip rfl rfl rfl ?_
      | (refine WpOps.call rfl rfl rfl rfl rfl (by exact hA _) ?_; rintro _ _ ⟨rfl, rfl⟩)
      | (refine WpOps.call rfl rfl rfl rfl rfl (by exact hG _) ?_; rintro _ _ ⟨rfl, rfl⟩)
      | refine WpOps.nil ?_
      | refine WpA.ret ?_
      | refine WpA.condT rfl ?_
    all_goals exact retK.ok («as» := [.bool true]) (by kernel_rfl) (by kernel_rfl) rfl .bool
  | false =>
  rw [hg] at hG
  cases hg2 : greatFs os with
  | true =>
    rw [hg2] at hG2
    repeat' first
      | refine WpA.seq ?_
      | refine WpA.region ?_
      | refine WpOps.op _ rfl rfl rfl rfl rfl ?_
      | refine WpOps.box _ rfl rfl rfl rfl rfl ?_
      | refine WpOps.skip rfl rfl rfl ?_
      | (refine WpOps.call rfl rfl rfl rfl rfl (by exact hA _) ?_; rintro _ _ ⟨rfl, rfl⟩)
      | (refine WpOps.call rfl rfl rfl rfl rfl (by exact hG _) ?_; rintro _ _ ⟨rfl, rfl⟩)
      | (refine WpOps.call rfl rfl rfl rfl rfl (by exact hG2 _) ?_; rintro _ _ ⟨rfl, rfl⟩)
      | refine WpOps.nil ?_
      | refine WpA.ret ?_
      | refine WpA.condT rfl ?_
    all_goals exact retK.ok («as» := [.bool true]) (by kernel_rfl) (by kernel_rfl) rfl .bool
  | false =>
  rw [hg2] at hG2
  obtain ⟨hb1, hb2⟩ := greatFs_false hg
  obtain ⟨hb3, hb4⟩ := greatFs_false hg2
  have hM := fun H => make_A v a b fs H (by omega) (fun f hf => Nat.le_trans (hb2 f hf).2 (by decide))
  by_cases he : makeE a b fs = 0
  · rw [he] at hM
    have hbn := (makeE_win he).2
    let gs := swapped fs i k
    have hp : gs.Perm fs := swapped_perm fs i k
    have hgl : gs.length = fs.length := hp.length_eq
    have hgb : ∀ f ∈ gs, f.bytes.length ≤ 1000000000 := fun f hf => Nat.le_trans (hb2 f (hp.mem_iff.1 hf)).2 (by decide)
    have hM2 := fun H => make_A v a b gs H (by omega) hgb
    rw [makeM_perm hp he, makeE_perm hp, he] at hM2
    have hMt := fun H => match_A (makeM v a b fs) gs H (by rw [make_ok he]; show (makeFs fs).length ≤ _; rw [makeFs_len]; omega) (by omega) hgb
    have hgn : byNameE gs = 0 := (byNameE_perm hp).trans hbn
    rw [matchE_make he, hgn] at hMt
    obtain ⟨l1, l2, l3⟩ := matchR_len (v := v) he hgn
    have hR := fun H => emptyRep_A (matchR (makeM v a b fs) gs) H l1 l2 l3
    rw [match_perm he hp] at hR
    have hC := fun H => Check_A (makeM v a b fs) H (by rw [make_ok he]; show (makeFs fs).length ≤ _; rw [makeFs_len]; omega)
    rw [make_check he] at hC
    have hS := fun H => refSame_A (makeM v a b fs) (makeM v a b fs) H (by rw [make_ok he]; show (makeFs fs).length ≤ _; rw [makeFs_len]; omega)
    rw [same_refl] at hS
    have hml : (makeM v a b fs).fs.length = fs.length := by rw [make_ok he]; exact makeFs_len fs
    obtain ⟨m, hm⟩ : ∃ m, makeM v a b fs = m := ⟨_, rfl⟩
    obtain ⟨r, hr⟩ : ∃ r, matchR (makeM v a b fs) gs = r := ⟨_, rfl⟩
    rw [hr] at hMt hR
    rw [hm] at hM hM2 hMt hC hS hml
    have hfit : fs.length * 40 ≤ 140737488355328 := by omega
    have hnl : ((rows m.fs).length : Int) = ((nrows fs).length : Nat) := by rw [rows_length, hlen, hml]
    have k5 : ¬ ((bif false then true else ((rows m.fs).length : Int) != ((nrows fs).length : Nat)) = true) := by rw [hnl]; simp
    have hmE : matchE m os = byNameE os := by rw [← hm]; exact matchE_make he os
    have hwE : makeE a b os = byNameE os := by rw [makeE, if_pos (makeE_win he).1]
    have hM3 := fun H => make_A v a b os H (by omega) (fun f hf => Nat.le_trans (hb4 f hf).2 (by decide))
    have hMt3 := fun H => match_A m os H (by omega) (by omega) (fun f hf => Nat.le_trans (hb4 f hf).2 (by decide))
    rw [hmE] at hMt3
    rw [hwE] at hM3
    by_cases hik : 0 ≤ i ∧ 0 ≤ k ∧ i.toNat < fs.length ∧ k.toNat < fs.length
    · have hgs : gs = (fs.set i.toNat (fs[k.toNat]'hik.2.2.2)).set k.toNat (fs[i.toNat]'hik.2.2.1) := by show swapped fs i k = _; rw [swapped, dif_pos hik]
      obtain ⟨h0i, h0k, hil, hkl⟩ := hik
      have kk1 : ¬ (decide (i ≥ 0) = false) := by simp; omega
      have kk2 : ¬ ((bif true then decide (k ≥ 0) else false) = false) := by simp; omega
      have kk3 : ¬ ((bif true then decide (i < ((nrows fs).length : Nat)) else false) = false) := by simp; omega
      have kk4 : ¬ ((bif true then decide (k < ((nrows fs).length : Nat)) else false) = false) := by simp; omega
      have hgk : (nrows fs)[k.toNat]? = some (fs[k.toNat]).row := by rw [nrows, List.getElem?_map, List.getElem?_eq_getElem hkl]; rfl
      have hgi : (nrows fs)[i.toNat]? = some (fs[i.toNat]).row := by rw [nrows, List.getElem?_map, List.getElem?_eq_getElem hil]; rfl
      have hii : i < ((nrows fs).length : Nat) := by rw [hlen]; omega
      have hkk : k < ((nrows fs).length : Nat) := by rw [hlen]; omega
      have hp1 : putA (nrows fs).flatten (0 + i.toNat * 2) (fs[k.toNat]).row = (nrows (fs.set i.toNat fs[k.toNat])).flatten := by rw [Nat.zero_add]; exact put_file hil _
      have hput : putA (putA (nrows fs).flatten (0 + i.toNat * 2) (fs[k.toNat]).row) (0 + k.toNat * 2) (fs[i.toNat]).row = (nrows gs).flatten := by
        rw [hp1, Nat.zero_add, put_file (by rw [List.length_set]; exact hkl), hgs]
      have hfl0 : ∀ l : List NFile, (nrows l).flatten.length = l.length * 2 := fun l => by rw [flat_length 2 _ (nrows_two l), nrows_len]
      have hfl : (nrows gs).flatten.length = fs.length * 2 := by rw [hfl0, hgl]
      have hle1 : Nat.ble (0 + i.toNat * 2 + 2) (nrows fs).flatten.length = true := by rw [hfl0]; simp; omega
      have hle2 : Nat.ble (0 + k.toNat * 2 + 2) (putA (nrows fs).flatten (0 + i.toNat * 2) (fs[k.toNat]).row).length = true := by rw [hp1, hfl0, List.length_set]; simp; omega
      have hne : nrows fs ≠ [] := by rw [← List.length_pos_iff, hlen]; omega
      repeat' first
        | refine WpA.seq ?_
        | refine WpA.region ?_
        | refine WpOps.op _ rfl rfl rfl rfl rfl ?_
        | refine WpOps.box _ rfl rfl rfl rfl rfl ?_
        | refine WpOps.alloc _ rfl rfl rfl rfl rfl rfl ?_
        | refine WpOps.store rfl rfl rfl rfl rfl rfl rfl rfl rfl rfl ?_
        | (refine WpOps.call rfl rfl rfl rfl rfl (by exact hA _) ?_; rintro _ _ ⟨rfl, rfl⟩)
        | (refine WpOps.call rfl rfl rfl rfl rfl (by exact hG _) ?_; rintro _ _ ⟨rfl, rfl⟩)
        | (refine WpOps.call rfl rfl rfl rfl rfl (by exact hG2 _) ?_; rintro _ _ ⟨rfl, rfl⟩)
        | (refine WpOps.call rfl rfl rfl rfl rfl (by exact hM _) ?_; rintro _ _ ⟨rfl, rfl⟩)
        | (refine WpOps.buildSlice [] rfl rfl rfl rfl rfl rfl rfl rfl rfl rfl rfl ?_)
        | refine WpOps.nil ?_
        | refine WpA.skip ?_
        | refine WpA.condF rfl ?_
      refine WpOps.p1 rfl rfl rfl (.appO (L := [.cells [.int .i64 a, .int .i64 b], .cells (m.cells .no)]) (ys := nrows fs) rfl rfl rfl rfl (fun k h => by cases h) rfl rfl rfl hne ?_) ?_
      · rw [hlen]; exact hfit
      refine WpOps.op _ rfl rfl rfl rfl rfl ?_
      refine WpOps.nil ?_
      refine WpA.seq ?_
      refine WpA.joinS [(0, .int .u64 v), (2, .sl .no 2 (nrows fs)), (3, .sl .no 2 (nrows os)), (7, .ptr H.length 0 0), (13, .bool true), (14, .ptr H.length 1 0), (16, .os H.length 2 0 2 (nrows fs).length)] (H ++ [.cells [.int .i64 a, .int .i64 b], .cells (m.cells .no), .cells (nrows gs).flatten]) ?_ ?_
      · repeat' first
          | exact absurd (by assumption) kk1
          | exact absurd (by assumption) kk2
          | exact absurd (by assumption) kk3
          | exact absurd (by assumption) kk4
          | refine WpA.drawI [] [0, 0, 0, 0, 0, 0, 0, 0, 0, 0, 0, 0, 0, 2, 0, 2] (by kernel_rfl) (by kernel_rfl) ?_
          | refine WpA.seq ?_
          | refine WpA.region ?_
          | refine WpOps.op _ rfl rfl rfl rfl rfl ?_
          | refine WpOps.gsplit _ rfl rfl rfl (fun h => ?_) (fun h => ?_)
          | refine WpOps.nil ?_
          | refine WpA.cond _ rfl (fun h => ?_) (fun h => ?_)
        repeat' first
          | (refine LexH.elem (fs[k.toNat]).row rfl rfl rfl rfl rfl rfl rfl rfl rfl rfl h0k hgk ?_)
          | (refine LexH.elem (fs[i.toNat]).row rfl rfl rfl rfl rfl rfl rfl rfl rfl rfl h0i hgi ?_)
          | (refine LexH.p0 rfl rfl rfl rfl (fun H0 => .elemO rfl rfl rfl rfl rfl h0i hii) ?_)
          | (refine LexH.p0 rfl rfl rfl rfl (fun H0 => .elemO rfl rfl rfl rfl rfl h0k hkk) ?_)
          | (refine LexH.store rfl rfl rfl rfl rfl rfl rfl rfl rfl rfl hle1 ?_)
          | (refine LexH.store rfl rfl rfl rfl rfl rfl rfl rfl rfl rfl hle2 ?_)
          | refine LexH.op0 _ rfl rfl rfl rfl rfl (fun _ => rfl) ?_
          | refine LexH.nil ?_
        refine ⟨⟨rfl, rfl, rfl, rfl, rfl, rfl, rfl, trivial⟩, ?_⟩
        rw [← hput]; rfl
      · refine WpA.freezeS (d := 16) (j := 2) rfl rfl (by rw [hfl]; omega) ?_
        have hch : chunkA 2 (nrows fs).length ((nrows gs).flatten.drop 0) = nrows gs := by
          rw [List.drop_zero, hlen, ← hgl, ← nrows_len gs]; exact chunk_flat 2 _ (nrows_two gs)
        rw [hch]
        by_cases he3 : byNameE os = 0
        · rw [he3] at hM3 hMt3 hwE
          have hq := exact_law (v := v) he hwE
          obtain ⟨l4, l5, l6⟩ := matchR_len (v := v) he he3
          rw [hm] at hq l4 l5 l6
          have hR3 := fun H => emptyRep_A (matchR m os) H l4 l5 l6
          have hS3 := fun H => refSame_A m (makeM v a b os) H (by omega)
          rw [← hq] at hS3
          obtain ⟨q, hqq⟩ : ∃ q, sameRep (matchR m os) rep0 = q := ⟨_, rfl⟩
          rw [hqq] at hR3 hS3
          have k6 := zz
          repeat' first
            | exact absurd (by assumption) k5
            | refine WpA.seq ?_
            | refine WpA.region ?_
            | refine WpOps.op _ rfl rfl rfl rfl rfl ?_
            | refine WpOps.alloc _ rfl rfl rfl rfl rfl rfl ?_
            | refine WpOps.store rfl rfl rfl rfl rfl rfl rfl rfl rfl rfl ?_
            | refine WpOps.build _ rfl rfl rfl rfl rfl ?_
            | (refine WpOps.call rfl rfl rfl rfl rfl (by exact hMt _) ?_; rintro _ _ ⟨rfl, rfl⟩)
            | (refine WpOps.call rfl rfl rfl rfl rfl (by exact hM2 _) ?_; rintro _ _ ⟨rfl, rfl⟩)
            | (refine WpOps.call rfl rfl rfl rfl rfl (by exact hR _) ?_; rintro _ _ ⟨rfl, rfl⟩)
            | (refine WpOps.call rfl rfl rfl rfl rfl (by exact hS _) ?_; rintro _ _ ⟨rfl, rfl⟩)
            | (refine WpOps.call rfl rfl rfl rfl rfl (by exact hC _) ?_; rintro _ _ ⟨rfl, rfl⟩)
            | (refine WpOps.call rfl rfl rfl rfl rfl (by exact hM3 _) ?_; rintro _ _ ⟨rfl, rfl⟩)
            | (refine WpOps.call rfl rfl rfl rfl rfl (by exact hMt3 _) ?_; rintro _ _ ⟨rfl, rfl⟩)
            | refine WpOps.gsplit _ rfl rfl rfl (fun h => ?_) (fun h => ?_)
            | refine WpOps.nil ?_
            | refine WpA.ret ?_
            | refine WpA.skip ?_
            | refine WpA.condF rfl ?_
            | refine WpA.draw (by kernel_rfl) ?_
            | refine LexA.op _ rfl rfl rfl rfl rfl ?_
            | refine LexA.build _ rfl rfl rfl rfl rfl ?_
            | refine LexA.call rfl rfl rfl rfl rfl (by exact hR3 _) ?_
            | refine LexA.call rfl rfl rfl rfl rfl (by exact hS3 _) ?_
            | refine LexA.nil ?_
          all_goals exact retK.ok («as» := [.bool (q == q)]) (by kernel_rfl) (by kernel_rfl) (congrArg AV.bool (by simp)) .bool
        · obtain ⟨c, hc⟩ : ∃ c, byNameE os = c := ⟨_, rfl⟩
          rw [hc] at hM3 hMt3 he3
          have k6 : ¬ ((c != 0) = false) := by simpa using he3
          repeat' first
            | exact absurd (by assumption) k5
            | exact absurd (by assumption) k6
            | refine WpA.seq ?_
            | refine WpA.region ?_
            | refine WpOps.op _ rfl rfl rfl rfl rfl ?_
            | refine WpOps.alloc _ rfl rfl rfl rfl rfl rfl ?_
            | refine WpOps.store rfl rfl rfl rfl rfl rfl rfl rfl rfl rfl ?_
            | refine WpOps.build _ rfl rfl rfl rfl rfl ?_
            | (refine WpOps.call rfl rfl rfl rfl rfl (by exact hMt _) ?_; rintro _ _ ⟨rfl, rfl⟩)
            | (refine WpOps.call rfl rfl rfl rfl rfl (by exact hM2 _) ?_; rintro _ _ ⟨rfl, rfl⟩)
            | (refine WpOps.call rfl rfl rfl rfl rfl (by exact hR _) ?_; rintro _ _ ⟨rfl, rfl⟩)
            | (refine WpOps.call rfl rfl rfl rfl rfl (by exact hS _) ?_; rintro _ _ ⟨rfl, rfl⟩)
            | (refine WpOps.call rfl rfl rfl rfl rfl (by exact hC _) ?_; rintro _ _ ⟨rfl, rfl⟩)
            | (refine WpOps.call rfl rfl rfl rfl rfl (by exact hM3 _) ?_; rintro _ _ ⟨rfl, rfl⟩)
            | (refine WpOps.call rfl rfl rfl rfl rfl (by exact hMt3 _) ?_; rintro _ _ ⟨rfl, rfl⟩)
            | refine WpOps.gsplit _ rfl rfl rfl (fun h => ?_) (fun h => ?_)
            | refine WpOps.nil ?_
            | refine WpA.ret ?_
            | refine WpA.skip ?_
            | refine WpA.condF rfl ?_
            | refine WpA.cond _ rfl (fun h => ?_) (fun h => ?_)
          all_goals exact retK.ok («as» := [.bool (c == c)]) (by kernel_rfl) (by kernel_rfl) (congrArg AV.bool (by simp)) .bool
    · have hgs : gs = fs := by show swapped fs i k = fs; rw [swapped, dif_neg hik]
      rw [hgs] at hMt hM2
      have kk : decide (i ≥ 0) = true → (bif true then decide (k ≥ 0) else false) = true → (bif true then decide (i < ((nrows fs).length : Nat)) else false) = true → (bif true then decide (k < ((nrows fs).length : Nat)) else false) = true → False := fun h1 h2 h3 h4 => by
        simp only [cond_true, decide_eq_true_eq, hlen] at h1 h2 h3 h4
        omega
      repeat' first
        | refine WpA.seq ?_
        | refine WpA.region ?_
        | refine WpOps.op _ rfl rfl rfl rfl rfl ?_
        | refine WpOps.box _ rfl rfl rfl rfl rfl ?_
        | refine WpOps.alloc _ rfl rfl rfl rfl rfl rfl ?_
        | refine WpOps.store rfl rfl rfl rfl rfl rfl rfl rfl rfl rfl ?_
        | (refine WpOps.call rfl rfl rfl rfl rfl (by exact hA _) ?_; rintro _ _ ⟨rfl, rfl⟩)
        | (refine WpOps.call rfl rfl rfl rfl rfl (by exact hG _) ?_; rintro _ _ ⟨rfl, rfl⟩)
        | (refine WpOps.call rfl rfl rfl rfl rfl (by exact hG2 _) ?_; rintro _ _ ⟨rfl, rfl⟩)
        | (refine WpOps.call rfl rfl rfl rfl rfl (by exact hM _) ?_; rintro _ _ ⟨rfl, rfl⟩)
        | (refine WpOps.buildSlice [] rfl rfl rfl rfl rfl rfl rfl rfl rfl rfl rfl ?_)
        | refine WpOps.nil ?_
        | refine WpA.skip ?_
        | refine WpA.condF rfl ?_
      refine WpOps.p1 rfl rfl rfl (.appE (ys := nrows fs) rfl rfl rfl rfl (fun k h => by cases h) rfl rfl rfl ?_) ?_
      · rw [hlen]; exact hfit
      refine WpOps.op _ rfl rfl rfl rfl rfl ?_
      refine WpOps.nil ?_
      refine WpA.seq ?_
      refine WpA.joinS [(0, .int .u64 v), (2, .sl .no 2 (nrows fs)), (3, .sl .no 2 (nrows os)), (7, .ptr H.length 0 0), (13, .bool true), (14, .ptr H.length 1 0), (16, .sl .no 2 (nrows fs))] (H ++ [.cells [.int .i64 a, .int .i64 b], .cells (m.cells .no)]) ?_ ?_
      · repeat' first
          | exact (kk (by assumption) (by assumption) (by assumption) (by assumption)).elim
          | refine WpA.seq ?_
          | refine WpA.region ?_
          | refine WpOps.op _ rfl rfl rfl rfl rfl ?_
          | refine WpOps.skip rfl rfl rfl ?_
          | refine WpOps.gsplit _ rfl rfl rfl (fun h => ?_) (fun h => ?_)
          | refine WpOps.nil ?_
          | refine WpA.skip ?_
          | refine WpA.condF rfl ?_
          | refine WpA.cond _ rfl (fun h => ?_) (fun h => ?_)
        all_goals exact ⟨⟨rfl, rfl, rfl, rfl, rfl, rfl, rfl, trivial⟩, rfl⟩
      · by_cases he3 : byNameE os = 0
        · rw [he3] at hM3 hMt3 hwE
          have hq := exact_law (v := v) he hwE
          obtain ⟨l4, l5, l6⟩ := matchR_len (v := v) he he3
          rw [hm] at hq l4 l5 l6
          have hR3 := fun H => emptyRep_A (matchR m os) H l4 l5 l6
          have hS3 := fun H => refSame_A m (makeM v a b os) H (by omega)
          rw [← hq] at hS3
          obtain ⟨q, hqq⟩ : ∃ q, sameRep (matchR m os) rep0 = q := ⟨_, rfl⟩
          rw [hqq] at hR3 hS3
          have k6 := zz
          repeat' first
            | exact absurd (by assumption) k5
            | refine WpA.seq ?_
            | refine WpA.region ?_
            | refine WpOps.op _ rfl rfl rfl rfl rfl ?_
            | refine WpOps.alloc _ rfl rfl rfl rfl rfl rfl ?_
            | refine WpOps.store rfl rfl rfl rfl rfl rfl rfl rfl rfl rfl ?_
            | refine WpOps.build _ rfl rfl rfl rfl rfl ?_
            | (refine WpOps.call rfl rfl rfl rfl rfl (by exact hMt _) ?_; rintro _ _ ⟨rfl, rfl⟩)
            | (refine WpOps.call rfl rfl rfl rfl rfl (by exact hM2 _) ?_; rintro _ _ ⟨rfl, rfl⟩)
            | (refine WpOps.call rfl rfl rfl rfl rfl (by exact hR _) ?_; rintro _ _ ⟨rfl, rfl⟩)
            | (refine WpOps.call rfl rfl rfl rfl rfl (by exact hS _) ?_; rintro _ _ ⟨rfl, rfl⟩)
            | (refine WpOps.call rfl rfl rfl rfl rfl (by exact hC _) ?_; rintro _ _ ⟨rfl, rfl⟩)
            | (refine WpOps.call rfl rfl rfl rfl rfl (by exact hM3 _) ?_; rintro _ _ ⟨rfl, rfl⟩)
            | (refine WpOps.call rfl rfl rfl rfl rfl (by exact hMt3 _) ?_; rintro _ _ ⟨rfl, rfl⟩)
            | refine WpOps.gsplit _ rfl rfl rfl (fun h => ?_) (fun h => ?_)
            | refine WpOps.nil ?_
            | refine WpA.ret ?_
            | refine WpA.skip ?_
            | refine WpA.condF rfl ?_
            | refine WpA.draw (by kernel_rfl) ?_
            | refine LexA.op _ rfl rfl rfl rfl rfl ?_
            | refine LexA.build _ rfl rfl rfl rfl rfl ?_
            | refine LexA.call rfl rfl rfl rfl rfl (by exact hR3 _) ?_
            | refine LexA.call rfl rfl rfl rfl rfl (by exact hS3 _) ?_
            | refine LexA.nil ?_
          all_goals exact retK.ok («as» := [.bool (q == q)]) (by kernel_rfl) (by kernel_rfl) (congrArg AV.bool (by simp)) .bool
        · obtain ⟨c, hc⟩ : ∃ c, byNameE os = c := ⟨_, rfl⟩
          rw [hc] at hM3 hMt3 he3
          have k6 : ¬ ((c != 0) = false) := by simpa using he3
          repeat' first
            | exact absurd (by assumption) k5
            | exact absurd (by assumption) k6
            | refine WpA.seq ?_
            | refine WpA.region ?_
            | refine WpOps.op _ rfl rfl rfl rfl rfl ?_
            | refine WpOps.alloc _ rfl rfl rfl rfl rfl rfl ?_
            | refine WpOps.store rfl rfl rfl rfl rfl rfl rfl rfl rfl rfl ?_
            | refine WpOps.build _ rfl rfl rfl rfl rfl ?_
            | (refine WpOps.call rfl rfl rfl rfl rfl (by exact hMt _) ?_; rintro _ _ ⟨rfl, rfl⟩)
            | (refine WpOps.call rfl rfl rfl rfl rfl (by exact hM2 _) ?_; rintro _ _ ⟨rfl, rfl⟩)
            | (refine WpOps.call rfl rfl rfl rfl rfl (by exact hR _) ?_; rintro _ _ ⟨rfl, rfl⟩)
            | (refine WpOps.call rfl rfl rfl rfl rfl (by exact hS _) ?_; rintro _ _ ⟨rfl, rfl⟩)
            | (refine WpOps.call rfl rfl rfl rfl rfl (by exact hC _) ?_; rintro _ _ ⟨rfl, rfl⟩)
            | (refine WpOps.call rfl rfl rfl rfl rfl (by exact hM3 _) ?_; rintro _ _ ⟨rfl, rfl⟩)
            | (refine WpOps.call rfl rfl rfl rfl rfl (by exact hMt3 _) ?_; rintro _ _ ⟨rfl, rfl⟩)
            | refine WpOps.gsplit _ rfl rfl rfl (fun h => ?_) (fun h => ?_)
            | refine WpOps.nil ?_
            | refine WpA.ret ?_
            | refine WpA.skip ?_
            | refine WpA.condF rfl ?_
            | refine WpA.cond _ rfl (fun h => ?_) (fun h => ?_)
          all_goals exact retK.ok («as» := [.bool (c == c)]) (by kernel_rfl) (by kernel_rfl) (congrArg AV.bool (by simp)) .bool
  · have hZ := fun H => zeroS_A H
    have hmz : makeM v a b fs = zeroMan := by rw [makeM, if_neg he]
    rw [hmz] at hM
    obtain ⟨c, hc⟩ : ∃ c, makeE a b fs = c := ⟨_, rfl⟩
    rw [hc] at hM he
    have k1 : ¬ ((c != 0) = false) := by simpa using he
    repeat' first
      | exact absurd (by assumption) k1
      | refine WpA.seq ?_
      | refine WpA.region ?_
      | refine WpOps.op _ rfl rfl rfl rfl rfl ?_
      | refine WpOps.box _ rfl rfl rfl rfl rfl ?_
      | refine WpOps.alloc _ rfl rfl rfl rfl rfl rfl ?_
      | refine WpOps.store rfl rfl rfl rfl rfl rfl rfl rfl rfl rfl ?_
      | refine WpOps.build _ rfl rfl rfl rfl rfl ?_
      | (refine WpOps.call rfl rfl rfl rfl rfl (by exact hA _) ?_; rintro _ _ ⟨rfl, rfl⟩)
      | (refine WpOps.call rfl rfl rfl rfl rfl (by exact hG _) ?_; rintro _ _ ⟨rfl, rfl⟩)
      | (refine WpOps.call rfl rfl rfl rfl rfl (by exact hG2 _) ?_; rintro _ _ ⟨rfl, rfl⟩)
      | (refine WpOps.call rfl rfl rfl rfl rfl (by exact hM _) ?_; rintro _ _ ⟨rfl, rfl⟩)
      | (refine WpOps.call rfl rfl rfl rfl rfl (by exact hZ _) ?_; rintro _ _ ⟨rfl, rfl⟩)
      | refine WpOps.nil ?_
      | refine WpA.ret ?_
      | refine WpA.skip ?_
      | refine WpA.condF rfl ?_
      | refine WpA.cond _ rfl (fun h => ?_) (fun h => ?_)
    all_goals exact retK.ok («as» := [.bool true]) (by kernel_rfl) (by kernel_rfl) rfl .bool
end Go.Gp.Tryd
