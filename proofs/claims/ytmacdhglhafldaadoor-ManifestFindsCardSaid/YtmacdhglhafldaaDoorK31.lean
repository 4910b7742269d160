/- Part of a proof: GdP6, GdX2, GdX4 -/
import Derived.Test.YtmacdhglhafldaaDoorK30

/- Manifests that are made of files: plain facts. -/
namespace Go.Gp.Tryd
open Go.Proofs
set_option linter.unusedVariables false
set_option linter.unusedSimpArgs false
set_option maxHeartbeats 4000000

theorem heq_refl (f : File) : heq f f = true := eqAL_refl _ (hash_int f)
theorem lt_iff : ∀ (x y : List UInt8), lt x y = true ↔ x < y
  | [], [] => by constructor <;> intro h <;> cases h
  | [], _ :: _ => ⟨fun _ => List.nil_lt_cons _ _, fun _ => rfl⟩
  | _ :: _, [] => by constructor <;> intro h <;> cases h
  | a :: x, b :: y => by
    have ih := lt_iff x y
    show (decide (a < b) || (a == b && lt x y)) = true ↔ _
    rw [List.cons_lt_cons_iff, ← ih]
    simp
theorem lt_of_le_ne {x y : List UInt8} (h : x ≤ y) (hn : x ≠ y) : lt x y = true := by
  have h1 : lt y x = false := by
    cases e : lt y x with
    | false => rfl
    | true => exact absurd ((lt_iff y x).1 e) (List.not_lt.2 h)
  rw [lt_not x y] at h1
  have h2 : (x == y) = false := by simpa using hn
  rw [h2] at h1
  simpa using h1
theorem sortB_lt {ss : List (List UInt8)} (h : ss.Nodup) : (sortB ss).Pairwise fun x y => lt x y = true :=
  ((sortB_pairwise ss).and ((sortB_perm ss).nodup_iff.2 h)).imp fun h => lt_of_le_ne h.1 h.2
theorem okUp_intro {fs : List File} (hn : ∀ f ∈ fs, name f.name = true) (hp : fs.Pairwise fun f g => lt f.name g.name = true) : okUpTo fs fs.length = true := by
  unfold okUpTo
  rw [List.all_eq_true]
  intro i hi
  have hi' := List.mem_range.1 hi
  unfold okAt
  rw [List.getElem?_eq_getElem hi']
  simp only [hn _ (List.getElem_mem hi'), Bool.true_and]
  cases i with
  | zero => rfl
  | succ k =>
    simp only [List.getElem?_eq_getElem (show k < fs.length by omega)]
    exact List.pairwise_iff_getElem.1 hp k (k + 1) (by omega) hi' (by omega)
theorem hashOf_name (fs : List NFile) (n : List UInt8) : (hashOf fs n).name = n := rfl
theorem fnames_make (fs : List NFile) : fnames (makeFs fs) = sortB (names fs) := by
  rw [fnames, makeFs, List.map_map]
  exact List.map_id _
theorem makeFs_len (fs : List NFile) : (makeFs fs).length = fs.length := by
  rw [makeFs, List.length_map, (sortB_perm _).length_eq, names, List.length_map]
theorem mem_sortB {ss : List (List UInt8)} {s : List UInt8} : s ∈ sortB ss ↔ s ∈ ss := (sortB_perm ss).mem_iff
theorem makeE_win {a b : Int} {fs : List NFile} (h : makeE a b fs = 0) : win a b = true ∧ byNameE fs = 0 := by
  unfold makeE at h
  split at h
  · rename_i hw; exact ⟨hw, h⟩
  · cases h
theorem make_ok {v a b : Int} {fs : List NFile} (h : makeE a b fs = 0) : makeM v a b fs = ⟨v, a, b, makeFs fs⟩ := by rw [makeM, if_pos h]
theorem make_check {v a b : Int} {fs : List NFile} (h : makeE a b fs = 0) : check (makeM v a b fs) = 0 := by
  obtain ⟨hw, hb⟩ := makeE_win h
  obtain ⟨g1, g2, g3⟩ := byNameE_ok hb
  rw [make_ok h]
  have h1 : okUpTo (makeFs fs) (makeFs fs).length = true := by
    refine okUp_intro (fun f hf => ?_) ?_
    · obtain ⟨n, hn, rfl⟩ := List.mem_map.1 hf
      obtain ⟨g, hg, rfl⟩ := List.mem_map.1 (mem_sortB.1 hn)
      have := List.any_eq_false.1 g2 g hg
      have h1 : name g.name = true := by simpa using this
      exact h1
    · exact List.pairwise_map.2 ((sortB_lt g3).imp fun h => h)
  have h2 : manOk ⟨v, a, b, makeFs fs⟩ = true := by
    rw [manOk, Bool.and_eq_true]
    exact ⟨hw, h1⟩
  rw [check, if_neg (by show ¬ 200 < (makeFs fs).length; rw [makeFs_len]; omega), if_pos h2]
theorem find_map (fs : List NFile) (y : List UInt8) : ∀ ns : List (List UInt8), (ns.map (hashOf fs)).find? (·.name == y) = if y ∈ ns then some (hashOf fs y) else none
  | [] => rfl
  | n :: ns => by
    rw [List.map_cons, List.find?_cons, find_map fs y ns]
    show (match n == y with | true => _ | false => _) = _
    by_cases h : n = y
    · subst h; simp
    · have : (n == y) = false := by simpa using h
      rw [this]
      have h' : ¬ y = n := fun e => h e.symm
      simp [h']
theorem seek_make {v a b : Int} {fs : List NFile} (h : makeE a b fs = 0) (y : List UInt8) : seek (makeM v a b fs) y = if y ∈ names fs then some (hashOf fs y) else none := by
  rw [make_ok h, seek]
  show (makeFs fs).find? _ = _
  rw [makeFs, find_map]
  simp only [mem_sortB]
def noFile : File := ⟨[], fun _ => 0⟩
def findF (fs : List NFile) (y : List UInt8) : File := if y ∈ names fs then hashOf fs y else noFile
def findE (fs : List NFile) (y : List UInt8) : Int := if y ∈ names fs then 0 else 6
theorem findAV_make {v a b : Int} {fs : List NFile} (h : makeE a b fs = 0) (y : List UInt8) : findAV (makeM v a b fs) y = .tup [.agg (findF fs y).hash, .int .i64 (findE fs y)] := by
  have hc := make_check (v := v) h
  have hs := seek_make (v := v) h y
  unfold findAV findCode findHash findByte findF findE
  rw [if_pos hc, if_pos hc, hs]
  by_cases hy : y ∈ names fs
  · rw [if_pos hy, if_pos hy, if_pos hy]; rfl
  · rw [if_neg hy, if_neg hy, if_neg hy]; rfl
theorem findM_A {v a b : Int} {fs : List NFile} (h : makeE a b fs = 0) (y : List UInt8) (H : List AObj) : CallsA E 27 [(makeM v a b fs).av .no, .str y] H (Is H (.tup [.agg (findF fs y).hash, .int .i64 (findE fs y)])) := by
  have hl : (makeM v a b fs).fs.length ≤ 1000000000000000 := by
    rw [make_ok h]
    show (makeFs fs).length ≤ _
    have := (byNameE_ok (makeE_win h).2).1
    rw [makeFs_len]; omega
  have := Find_A (makeM v a b fs) y H hl
  rw [findAV_make h] at this
  exact this
theorem find_nodup : ∀ {fs : List NFile} {f : NFile}, f ∈ fs → (names fs).Nodup → fs.find? (fun g => g.name == f.name) = some f
  | [], _, h, _ => by cases h
  | g :: fs, f, h, hn => by
    rw [List.find?_cons]
    have hn' : g.name ∉ names fs ∧ (names fs).Nodup := List.nodup_cons.1 hn
    rcases List.mem_cons.1 h with rfl | h
    · simp
    · have hne : g.name ≠ f.name := fun e => hn'.1 (e ▸ List.mem_map.2 ⟨f, h, rfl⟩)
      have : (g.name == f.name) = false := by simpa using hne
      rw [this]
      exact find_nodup h hn'.2
theorem bytesAt_of {fs : List NFile} {f : NFile} (h : f ∈ fs) (hn : (names fs).Nodup) : bytesAt fs f.name = f.bytes := by
  rw [bytesAt, find_nodup h hn]; rfl
theorem hashOf_of {fs : List NFile} {f : NFile} (h : f ∈ fs) (hn : (names fs).Nodup) : hashOf fs f.name = ⟨f.name, sha f.bytes⟩ := by
  rw [hashOf, bytesAt_of h hn]
theorem mem_names {fs : List NFile} {f : NFile} (h : f ∈ fs) : f.name ∈ names fs := List.mem_map.2 ⟨f, h, rfl⟩

theorem zeroS_A (H : List AObj) : CallsA E 17 [zeroMan.av .no, .agg [.int .u64 0, .int .i64 0, .int .i64 0, .sl .full 0 []]] H (Is H (.bool true)) := by
  have := refSame_A zeroMan zeroMan H (by decide)
  rw [same_refl] at this
  exact CallsA.subL (vs := [zeroMan.av .no, zeroMan.av .no]) ⟨Sub.refl _, zeroMan_sub, trivial⟩ this

/-- What Match says of a manifest that was made. -/
def inB (gs : List NFile) (n : List UInt8) : Bool := decide (n ∈ names gs)
def badB (fs gs : List NFile) (n : List UInt8) : Bool := inB gs n && !heq (hashOf gs n) (hashOf fs n)
theorem matchE_make {v a b : Int} {fs : List NFile} (h : makeE a b fs = 0) (gs : List NFile) : matchE (makeM v a b fs) gs = byNameE gs := by
  rw [matchE, if_pos (make_check h)]
theorem fnames_filter (fs : List NFile) (p : File → Bool) : ∀ ns : List (List UInt8), fnames ((ns.map (hashOf fs)).filter p) = ns.filter fun n => p (hashOf fs n)
  | [] => rfl
  | n :: ns => by
    have ih := fnames_filter fs p ns
    rw [List.map_cons, List.filter_cons, List.filter_cons]
    by_cases hp : p (hashOf fs n) = true
    · rw [if_pos hp, if_pos hp, ← ih]; rfl
    · rw [if_neg hp, if_neg hp, ih]
theorem matchR_make {v a b : Int} {fs : List NFile} (h : makeE a b fs = 0) {gs : List NFile} (hg : byNameE gs = 0) :
    matchR (makeM v a b fs) gs = ⟨(sortB (names fs)).filter fun n => !inB gs n, (sortB (names fs)).filter (badB fs gs), sortB ((names gs).filter fun n => !inB fs n)⟩ := by
  have h0 := (matchE_make (v := v) h gs).trans hg
  rw [matchR, if_pos h0, make_ok h]
  show Rep.mk (fnames ((makeFs fs).filter _)) (fnames ((makeFs fs).filter _)) (sortB ((names gs).filter fun k => !(fnames (makeFs fs)).contains k)) = _
  rw [fnames_make]
  congr 1
  · rw [makeFs, fnames_filter]; rfl
  · rw [makeFs, fnames_filter]; rfl
  · congr 1
    apply List.filter_congr
    intro k _
    have : (sortB (names fs)).contains k = inB fs k := by
      rw [inB, Bool.eq_iff_iff, List.contains_iff_mem, decide_eq_true_eq, mem_sortB]
    rw [this]
end Go.Gp.Tryd

/- The laws of manifests: the chapter's examples. -/
namespace Go.Gp.Tryd
open Go.Proofs
set_option linter.unusedVariables false
set_option linter.unusedSimpArgs false
set_option maxHeartbeats 4000000
set_option maxRecDepth 100000

def man1 : Man := ⟨1, 0, 9, []⟩
def ten : List UInt8 := [128, 8, 1, 1, 1, 2, 0, 3, 1, 9]
def exFs : List NFile := [⟨[98], [121]⟩, ⟨[97], [120]⟩]
def exGs : List NFile := [⟨[99], [122]⟩, ⟨[98], [121]⟩]
def two : Man := ⟨1, 0, 9, [⟨[97], sha [120]⟩, ⟨[98], sha [121]⟩]⟩
theorem num_enc {t : UInt8} {v : Nat} (b : UInt8) (h : be v = [b]) : (numO t v).enc = [t, 1, b] := by
  rw [numO, h, enc_mk, encL_nil]; rfl
theorem man1_check : check man1 = 0 := by kernel_rfl
theorem man1_o : (manO man1).enc = ten := by
  have h0 : manO man1 = .mk 128 [] [numO 1 1, numO 2 0, numO 3 9] := rfl
  have e1 : (numO 1 1).enc = [1, 1, 1] := num_enc 1 (by decide)
  have e2 : (numO 2 0).enc = [2, 0] := by
    have : be 0 = [] := by decide
    rw [numO, this, enc_mk, encL_nil]; rfl
  have e3 : (numO 3 9).enc = [3, 1, 9] := num_enc 9 (by decide)
  rw [h0, enc_mk, encL_cons, encL_cons, encL_cons, encL_nil, e1, e2, e3]
  rfl
theorem man1_enc : manEnc man1 = (ten, 0) := by
  have h := man1_check
  have hk := manO_check (m := man1) h (by decide)
  unfold manEnc
  rw [if_neg (by rw [h]; decide), if_pos hk, man1_o]
theorem ten_dec : decR ten = .tup [man1.av .no, .int .i64 0] := by
  have h := dec_enc (m := man1) man1_check (by decide) (by decide)
  rw [man1_o] at h
  unfold decR
  rw [h]
  rfl
theorem two_make : makeM 1 0 9 exFs = two ∧ makeE 0 9 exFs = 0 := by
  have h0 : makeE 0 9 exFs = 0 := by kernel_rfl
  have hs : sortB (names exFs) = [[97], [98]] := (sortB_unique (xs := [[97], [98]]) (List.Perm.swap _ _ _) (by decide)).symm
  refine ⟨?_, h0⟩
  rw [makeM, if_pos h0, makeFs, hs]
  rfl
theorem two_match : matchR two exGs = ⟨[[97]], [], [[99]]⟩ ∧ matchE two exGs = 0 := by
  have h0 : matchE two exGs = 0 := by kernel_rfl
  refine ⟨?_, h0⟩
  have h1 : fnames (two.fs.filter (missF exGs)) = [[97]] := by kernel_rfl
  have h2 : fnames (two.fs.filter (wrongF exGs)) = [] := by
    have e1 : wrongF exGs ⟨[97], sha [120]⟩ = false := by rfl
    have e2 : wrongF exGs ⟨[98], sha [121]⟩ = false := by
      have : hashOf exGs [98] = ⟨[98], sha [121]⟩ := rfl
      rw [wrongF, this, heq_refl]; rfl
    show fnames (List.filter (wrongF exGs) [⟨[97], sha [120]⟩, ⟨[98], sha [121]⟩]) = []
    rw [List.filter_cons, if_neg (by rw [e1]; decide), List.filter_cons, if_neg (by rw [e2]; decide)]; rfl
  have h3 : sortB ((names exGs).filter fun k => !(fnames two.fs).contains k) = [[99]] := by
    have : ((names exGs).filter fun k => !(fnames two.fs).contains k) = [[99]] := by kernel_rfl
    rw [this]
    exact (sortB_unique (xs := [[99]]) (List.Perm.refl _) (by decide)).symm
  rw [matchR, if_pos h0, h1, h2, h3]

theorem zz : ¬ (((0 : Int) == 0) = false) := by decide
theorem alive_A (H : List AObj) : CallsA E 20 [] H (Is H (.bool true)) := by
  have hE : ∀ H, CallsA E 21 [.agg [.int .u64 1, .int .i64 0, .int .i64 9, .sl .full 0 []]] H (Is H (.tup [.sl .no 1 (ten.map byteRow), .int .i64 0])) := fun H => by
    have := manEncode_A man1 H (by decide) (by decide) (by decide)
    rw [man1_enc] at this
    exact CallsA.subL (vs := [man1.av .no]) ⟨Sub.agg (vs := [.int .u64 1, .int .i64 0, .int .i64 9, .sl .no 33 []]) ⟨Sub.refl _, Sub.refl _, Sub.refl _, Sub.empty, trivial⟩, trivial⟩ this
  have hD : ∀ H, CallsA E 22 [.sl .full 1 (ten.map byteRow)] H (Is H (.tup [man1.av .no, .int .i64 0])) := fun H => by
    have := manDecode_A ten H (by decide)
    rw [ten_dec] at this
    exact CallsA.subL (vs := [.sl .no 1 (ten.map byteRow)]) ⟨Sub.untag, trivial⟩ this
  have hF := fun (n b : List UInt8) H (hb : b.length ≤ 140737488355328) => file_A n b H hb
  have hM : ∀ H, CallsA E 13 [.int .u64 1, .agg [.int .i64 0, .int .i64 9], .sl .full 2 (nrows exFs)] H (Is H (.tup [two.av .no, .int .i64 0])) := fun H => by
    have := make_A 1 0 9 exFs H (by decide) (by decide)
    rw [two_make.1, two_make.2] at this
    exact CallsA.subL (vs := [.int .u64 1, .agg [.int .i64 0, .int .i64 9], .sl .no 2 (nrows exFs)]) ⟨Sub.refl _, Sub.refl _, Sub.untag, trivial⟩ this
  have hR : ∀ H, CallsA E 15 [two.av .no, .sl .full 2 (nrows exGs)] H (Is H (.tup [Rep.av ⟨[[97]], [], [[99]]⟩, .int .i64 0])) := fun H => by
    have := match_A two exGs H (by decide) (by decide) (by decide)
    rw [two_match.1, two_match.2] at this
    exact CallsA.subL (vs := [two.av .no, .sl .no 2 (nrows exGs)]) ⟨Sub.refl _, Sub.untag, trivial⟩ this
  have hB : ∀ H, CallsA E 24 [.sl .no 1 (ten.map byteRow), .sl .full 1 (ten.map byteRow)] H (Is H (.bool true)) := fun H => by
    have := sameBytes_A ten ten .no .full H (by decide)
    simpa using this
  have hS : ∀ H, CallsA E 17 [man1.av .no, .agg [.int .u64 1, .int .i64 0, .int .i64 9, .sl .full 0 []]] H (Is H (.bool true)) := fun H => by
    have := refSame_A man1 man1 H (by decide)
    rw [same_refl] at this
    exact CallsA.subL (vs := [man1.av .no, man1.av .no]) ⟨Sub.refl _, Sub.agg (vs := [.int .u64 1, .int .i64 0, .int .i64 9, .sl .no 33 []]) ⟨Sub.refl _, Sub.refl _, Sub.refl _, Sub.empty, trivial⟩, trivial⟩ this
  have hP : ∀ H, CallsA E 18 [Rep.av ⟨[[97]], [], [[99]]⟩, .agg [.sl .full 1 (strs [[97]]), .sl .full 0 [], .sl .full 1 (strs [[99]])]] H (Is H (.bool true)) := fun H => by
    have := sameReport_A ⟨[[97]], [], [[99]]⟩ ⟨[[97]], [], [[99]]⟩ H (by decide) (by decide) (by decide)
    have e : sameRep ⟨[[97]], [], [[99]]⟩ ⟨[[97]], [], [[99]]⟩ = true := by decide
    rw [e] at this
    exact CallsA.subL (vs := [Rep.av ⟨[[97]], [], [[99]]⟩, Rep.av ⟨[[97]], [], [[99]]⟩]) ⟨Sub.refl _, Sub.agg (vs := [.sl .no 1 (strs [[97]]), .sl .no 1 (strs []), .sl .no 1 (strs [[99]])]) ⟨Sub.untag, Sub.empty, Sub.untag, trivial⟩, trivial⟩ this
  refine .enter Tryd.func20 rfl rfl rfl 84 Tryd.ntmps20 (Nat.le_of_ble_eq_true rfl) ?_
  repeat' first
    | refine WpA.drawI [H.length + 1] [4, 0, 0, 0, 0, 0, 0, 0, 3, 2, 0] (by kernel_rfl) (by kernel_rfl) ?_
    | refine WpA.seq ?_
    | refine WpA.region ?_
    | refine WpOps.op _ rfl rfl rfl rfl rfl ?_
    | refine WpOps.alloc _ rfl rfl rfl rfl rfl rfl ?_
    | refine WpOps.store rfl rfl rfl rfl rfl rfl rfl rfl rfl rfl ?_
    | refine WpOps.build _ rfl rfl rfl rfl rfl ?_
    | (refine WpOps.call rfl rfl rfl rfl rfl (by exact hE _) ?_; rintro _ _ ⟨rfl, rfl⟩)
    | (refine WpOps.call rfl rfl rfl rfl rfl (by exact hD _) ?_; rintro _ _ ⟨rfl, rfl⟩)
    | (refine WpOps.call rfl rfl rfl rfl rfl (by exact hF _ _ _ (by decide)) ?_; rintro _ _ ⟨rfl, rfl⟩)
    | (refine WpOps.call rfl rfl rfl rfl rfl (by exact hM _) ?_; rintro _ _ ⟨rfl, rfl⟩)
    | (refine WpOps.buildSlice _ rfl rfl rfl rfl rfl rfl rfl rfl rfl rfl rfl ?_)
    | refine WpOps.nil ?_

  repeat' first
    | exact absurd (by assumption) zz
    | refine WpA.seq ?_
    | refine WpA.region ?_
    | refine WpOps.op _ rfl rfl rfl rfl rfl ?_
    | (refine LexH.alloc3 _ rfl rfl rfl rfl rfl rfl rfl ?_)
    | refine WpOps.gsplit _ rfl rfl rfl (fun h => ?_) (fun h => ?_)
    | refine LexH.op0 _ rfl rfl rfl rfl rfl (fun _ => rfl) ?_
    | refine LexH.load4 _ rfl rfl rfl rfl rfl rfl (by simp) rfl rfl rfl rfl ?_
    | refine LexH.buildSlice _ rfl rfl rfl rfl rfl rfl rfl rfl rfl rfl rfl rfl ?_
    | refine LexH.store rfl rfl rfl rfl rfl rfl rfl rfl rfl rfl rfl ?_
    | refine LexH.call0 rfl rfl rfl rfl rfl rfl (fun _ => by exact hF _ _ _ (by decide)) ?_
    | refine LexH.call0 rfl rfl rfl rfl rfl rfl (fun _ => by exact hR _) ?_
    | refine LexH.nil ?_

  repeat' first
    | (refine WpOps.buildSlice (len := 10) (ten.map u8) rfl rfl rfl rfl rfl rfl (by kernel_rfl) (by kernel_rfl) rfl rfl rfl ?_)
    | refine WpA.seq ?_
    | refine WpA.region ?_
    | refine WpOps.op _ rfl rfl rfl rfl rfl ?_
    | refine WpOps.build _ rfl rfl rfl rfl rfl ?_
    | (refine WpOps.call rfl rfl rfl rfl rfl (by exact hB _) ?_; rintro _ _ ⟨rfl, rfl⟩)
    | (refine WpOps.call rfl rfl rfl rfl rfl (by exact hS _) ?_; rintro _ _ ⟨rfl, rfl⟩)
    | (refine WpOps.call rfl rfl rfl rfl rfl (by exact hP _) ?_; rintro _ _ ⟨rfl, rfl⟩)
    | (refine WpOps.buildSlice _ rfl rfl rfl rfl rfl rfl rfl rfl rfl rfl rfl ?_)
    | (refine WpOps.elem (File.row ⟨[97], sha [120]⟩) rfl rfl rfl rfl rfl rfl rfl rfl rfl (by decide) rfl ?_)
    | refine WpOps.nil ?_
    | refine WpA.ret ?_
  exact retK.ok («as» := [.bool true]) (by kernel_rfl) (by kernel_rfl) rfl .bool
end Go.Gp.Tryd

/- The law ManifestFinds: its walk. -/
namespace Go.Gp.Tryd
open Go.Proofs
set_option linter.unusedVariables false
set_option linter.unusedSimpArgs false
set_option maxHeartbeats 4000000
set_option maxRecDepth 100000

theorem eqHashR (f : File) : EqS E (.inl 61) [.agg f.hash] [.agg f.hash] true := by
  have := eqHash f f
  rwa [heq_refl] at this
theorem z3 : ¬ (((0 : Int) != 0) = true) := by decide
theorem finds_A (fs : List NFile) (nm : List UInt8) (H : List AObj) (hl : fs.length ≤ 1000000000000000) :
    CallsA E 8 [.sl .no 2 (nrows fs), .str nm] H (Is H (.bool true)) := by
  have hlen := nrows_len fs
  have hA := fun H => alive_A H
  have hG := fun H => greatFiles_A fs H hl
  refine .enter Tryd.func8 rfl rfl rfl 97 Tryd.ntmps8 (Nat.le_of_ble_eq_true rfl) ?_
  cases hg : greatFs fs with
  | true =>
    rw [hg] at hG
    repeat' first
      | refine WpA.seq ?_
      | refine WpA.region ?_
      | refine WpOps.op _ rfl rfl rfl rfl rfl ?_
      | refine WpOps.skip rfl rfl rfl ?_
      | (refine WpOps.call rfl rfl rfl rfl rfl (by exact hA _) ?_; rintro _ _ ⟨rfl, rfl⟩)
      | (refine WpOps.call rfl rfl rfl rfl rfl (by exact hG _) ?_; rintro _ _ ⟨rfl, rfl⟩)
      | refine WpOps.nil ?_
      | refine WpA.ret ?_
      | refine WpA.condT rfl ?_
    all_goals exact retK.ok («as» := [.bool true]) (by kernel_rfl) (by kernel_rfl) rfl .bool
  | false =>
    rw [hg] at hG
    obtain ⟨hb1, hb2⟩ := greatFs_false hg
    have hM := fun H => make_A 0 0 0 fs H (by omega) (fun f hf => Nat.le_trans (hb2 f hf).2 (by decide))
    by_cases he : makeE 0 0 fs = 0
    · rw [he] at hM
      have hn := (byNameE_ok (makeE_win he).2).2.2
      have hF := fun y H => findM_A (v := 0) he y H
      have hin : ∀ {i : Nat} (hi : i < fs.length), findF fs fs[i].name = hashOf fs fs[i].name ∧ findE fs fs[i].name = 0 := fun hi => by
        have := mem_names (List.getElem_mem hi)
        exact ⟨by rw [findF, if_pos this], by rw [findE, if_pos this]⟩
      have hz : findE fs nm = 0 ∧ nm ∈ names fs ∧ findF fs nm = hashOf fs nm ∨ findE fs nm = 6 ∧ nm ∉ names fs ∧ findF fs nm = noFile := by
        by_cases h : nm ∈ names fs
        · exact .inl ⟨by rw [findE, if_pos h], h, by rw [findF, if_pos h]⟩
        · exact .inr ⟨by rw [findE, if_neg h], h, by rw [findF, if_neg h]⟩
      have hN := fun H => hF nm H
      obtain ⟨c, hc⟩ : ∃ c, findE fs nm = c := ⟨_, rfl⟩
      obtain ⟨x, hx⟩ : ∃ x, findF fs nm = x := ⟨_, rfl⟩
      rw [hc, hx] at hN hz
      obtain ⟨m, hm⟩ : ∃ m, makeM 0 0 0 fs = m := ⟨_, rfl⟩
      rw [hm] at hN hF hM
      repeat' first
        | refine WpA.seq ?_
        | refine WpA.region ?_
        | refine WpOps.op _ rfl rfl rfl rfl rfl ?_
        | refine WpOps.alloc _ rfl rfl rfl rfl rfl rfl ?_
        | refine WpOps.store rfl rfl rfl rfl rfl rfl rfl rfl rfl rfl ?_
        | refine WpOps.skip rfl rfl rfl ?_
        | refine WpOps.build _ rfl rfl rfl rfl rfl ?_
        | (refine WpOps.call rfl rfl rfl rfl rfl (by exact hA _) ?_; rintro _ _ ⟨rfl, rfl⟩)
        | (refine WpOps.call rfl rfl rfl rfl rfl (by exact hG _) ?_; rintro _ _ ⟨rfl, rfl⟩)
        | (refine WpOps.call rfl rfl rfl rfl rfl (by exact hM _) ?_; rintro _ _ ⟨rfl, rfl⟩)
        | (refine WpOps.call rfl rfl rfl rfl rfl (by exact hN _) ?_; rintro _ _ ⟨rfl, rfl⟩)
        | refine WpOps.gsplit _ rfl rfl rfl (fun h => ?_) (fun h => ?_)
        | refine WpA.block ?_
        | refine WpOps.nil ?_
        | refine WpA.ret ?_
        | refine WpA.skip ?_
        | refine WpA.condT rfl ?_
        | refine WpA.condF rfl ?_
      · exact retK.ok («as» := [.bool true]) (by kernel_rfl) (by kernel_rfl) rfl .bool
      refine WpA.loopG fs.length (fun i => [(0, .sl .no 2 (nrows fs)), (1, .str nm), (5, .bool true), (6, .ptr H.length 0 0), (8, .ptr H.length 1 0), (9, .int .i64 c), (10, .bool (decide (nm ∈ names (fs.take i)))), (11, .int .i64 (i : Nat))]) (fun _ => H ++ [.cells (m.cells .no), .cells x.hash]) (fun i => True) trivial
        ⟨rfl, rfl, rfl, rfl, rfl, rfl, rfl, rfl, trivial⟩ rfl (fun _ _ => rfl) (fun i hi _ => TrOk.refl _) (fun i hi _ => ⟨bd_nrows _ _, .str, .bool, .ptr (by simp), .ptr (by simp), .int, .bool, .int, trivial⟩) (fun i hi _ => ?_) (fun _ => ?_) (fun _ => ⟨rfl, rfl, rfl, rfl, rfl, rfl, rfl, rfl, trivial⟩)
      · have hge := nrows_get hi
        have hFi := fun H => hF fs[i].name H
        obtain ⟨hi1, hi2⟩ := hin hi
        have hsum := fun H => sum_A fs[i].bytes (Nat.le_trans (hb2 _ (List.getElem_mem hi)).2 (by decide)) H
        have hho := hashOf_of (List.getElem_mem hi) hn
        have hsh : hashA (sha fs[i].bytes) = (hashOf fs fs[i].name).hash := by rw [hho]; rfl
        rw [hi1, hi2] at hFi
        rw [hsh] at hsum
        obtain ⟨y, hy⟩ : ∃ y, hashOf fs fs[i].name = y := ⟨_, rfl⟩
        rw [hy] at hFi hsum
        have hnames : decide (nm ∈ names (fs.take (i + 1))) = (decide (nm ∈ names (fs.take i)) || fs[i].name == nm) := by
          rw [List.take_succ_eq_append_getElem hi, names, names, List.map_append, Bool.eq_iff_iff]
          simp only [List.map_cons, List.map_nil, List.mem_append, List.mem_singleton, Bool.or_eq_true, decide_eq_true_eq, beq_iff_eq]
          exact or_congr Iff.rfl eq_comm
        have k0 : (fs[i].name == nm) = true → c = 0 ∧ x = y := fun h => by
          have h1 : fs[i].name = nm := by simpa using h
          have h2 : nm ∈ names fs := h1 ▸ mem_names (List.getElem_mem hi)
          rcases hz with ⟨h3, _, h4⟩ | ⟨_, h3, _⟩
          · exact ⟨h3, by rw [h4, ← hy, h1]⟩
          · exact absurd h2 h3
        have k1 : (fs[i].name == nm) = true → ¬ ((c != 0) = true) := fun h => by rw [(k0 h).1]; decide
        have k2 : (fs[i].name == nm) = true → ¬ ((bif false then true else !heq x y) = true) := fun h => by rw [(k0 h).2, heq_refl]; decide
        have hlt : decide (((i : Nat) : Int) < (((nrows fs).length : Nat) : Int)) = true := decide_eq_true (by rw [hlen]; omega)
        repeat' first
          | refine WpA.condT (congrArg AV.bool hlt) ?_
          | refine WpA.drawI [H.length] [4, 0, 0, 0, 0, 0, 0, 0, 0, 0, 3, 2, 0] (by kernel_rfl) (by kernel_rfl) ?_
          | refine WpA.seq ?_
          | refine WpA.region ?_
          | refine WpOps.op _ rfl rfl rfl rfl rfl ?_
          | refine WpA.block ?_
          | refine WpOps.nil ?_
          | refine WpA.skip ?_
        repeat' first
          | (refine LexH.elem _ rfl rfl rfl rfl rfl rfl rfl rfl rfl rfl (Int.natCast_nonneg i) hge ?_)
          | refine WpA.seq ?_
          | (refine LexH.alloc3 _ rfl rfl rfl rfl rfl rfl rfl ?_)
          | refine LexH.op0 _ rfl rfl rfl rfl rfl (fun _ => rfl) ?_
          | refine LexH.load4 _ rfl rfl rfl rfl rfl rfl (by simp) rfl rfl rfl rfl ?_
          | refine LexH.store rfl rfl rfl rfl rfl rfl rfl rfl rfl rfl rfl ?_
          | refine LexH.call0 rfl rfl rfl rfl rfl rfl (fun _ => by exact hFi _) ?_
          | refine LexH.nil ?_
        repeat' first
          | (refine LexA.elem _ rfl rfl rfl rfl rfl rfl rfl rfl rfl (Int.natCast_nonneg i) hge ?_)
          | (refine WpOps.elem _ rfl rfl rfl rfl rfl rfl rfl rfl rfl (Int.natCast_nonneg i) hge ?_)
          | (refine LexA.neA rfl rfl rfl rfl rfl rfl keyHash (by exact eqHashR y) ?_)
          | (refine WpOps.neA rfl rfl rfl rfl rfl rfl keyHash (by exact eqHash x y) ?_)
          | refine WpA.seq ?_
          | refine WpA.region ?_
          | refine WpOps.op _ rfl rfl rfl rfl rfl ?_
          | refine WpOps.skip rfl rfl rfl ?_
          | refine WpOps.gsplit _ rfl rfl rfl (fun h => ?_) (fun h => ?_)
          | refine WpOps.nil ?_
          | refine WpA.ret ?_
          | refine WpA.skip ?_
          | refine WpA.condT rfl ?_
          | refine WpA.condF rfl ?_
          | refine WpA.cond _ rfl (fun h => ?_) (fun h => ?_)
          | refine WpA.draw (by kernel_rfl) ?_
          | refine LexA.op _ rfl rfl rfl rfl rfl ?_
          | refine LexA.call rfl rfl rfl rfl rfl (by exact hsum _) ?_
          | refine LexA.nil ?_
        · exact absurd (by assumption) (k1 (by assumption))
        · exact absurd (by assumption) (k2 (by assumption))
        · refine ⟨trivial, ⟨rfl, rfl, rfl, rfl, rfl, rfl, congrArg AV.bool ?_, congrArg (AV.int .i64) (wrap64 (by omega) (by omega)), trivial⟩, [.cells y.hash], by rw [List.append_assoc]; rfl⟩
          rw [hnames, show (fs[i].name == nm) = true from by assumption, Bool.or_true]
        · refine ⟨trivial, ⟨rfl, rfl, rfl, rfl, rfl, rfl, congrArg AV.bool ?_, congrArg (AV.int .i64) (wrap64 (by omega) (by omega)), trivial⟩, [.cells y.hash], by rw [List.append_assoc]; rfl⟩
          rw [hnames, show (fs[i].name == nm) = false from by assumption, Bool.or_false]
      · have hlt : decide (((fs.length : Nat) : Int) < (((nrows fs).length : Nat) : Int)) = false := decide_eq_false (by rw [hlen]; omega)
        have hth : decide (nm ∈ names (fs.take fs.length)) = decide (nm ∈ names fs) := by rw [List.take_length]
        rw [hth]
        rcases hz with ⟨rfl, h1, _⟩ | ⟨rfl, h1, rfl⟩
        · rw [decide_eq_true h1]
          repeat' first
            | refine WpA.condF (congrArg AV.bool hlt) ?_
            | refine WpA.seq ?_
            | refine WpA.region ?_
            | refine WpOps.op _ rfl rfl rfl rfl rfl ?_
            | refine WpOps.skip rfl rfl rfl ?_
            | refine WpA.exit ?_
            | refine WpOps.nil ?_
            | refine WpA.ret ?_
          exact retK.ok («as» := [.bool true]) (by kernel_rfl) (by kernel_rfl) rfl .bool
        · rw [decide_eq_false h1]
          repeat' first
            | refine WpA.condF (congrArg AV.bool hlt) ?_
            | (refine WpOps.eqA rfl rfl rfl rfl rfl rfl keyHash (by exact eqHashR noFile) ?_)
            | refine WpA.seq ?_
            | refine WpA.region ?_
            | refine WpOps.op _ rfl rfl rfl rfl rfl ?_
            | refine WpOps.build _ rfl rfl rfl rfl rfl ?_
            | refine WpA.exit ?_
            | refine WpOps.nil ?_
            | refine WpA.ret ?_
          exact retK.ok («as» := [.bool true]) (by kernel_rfl) (by kernel_rfl) rfl .bool
    · obtain ⟨c, hc⟩ : ∃ c, makeE 0 0 fs = c := ⟨_, rfl⟩
      rw [hc] at hM he
      have k1 : ¬ ((c != 0) = false) := by simpa using he
      repeat' first
        | exact absurd (by assumption) k1
        | refine WpA.seq ?_
        | refine WpA.region ?_
        | refine WpOps.op _ rfl rfl rfl rfl rfl ?_
        | refine WpOps.alloc _ rfl rfl rfl rfl rfl rfl ?_
        | refine WpOps.store rfl rfl rfl rfl rfl rfl rfl rfl rfl rfl ?_
        | refine WpOps.skip rfl rfl rfl ?_
        | refine WpOps.build _ rfl rfl rfl rfl rfl ?_
        | (refine WpOps.call rfl rfl rfl rfl rfl (by exact hA _) ?_; rintro _ _ ⟨rfl, rfl⟩)
        | (refine WpOps.call rfl rfl rfl rfl rfl (by exact hG _) ?_; rintro _ _ ⟨rfl, rfl⟩)
        | (refine WpOps.call rfl rfl rfl rfl rfl (by exact hM _) ?_; rintro _ _ ⟨rfl, rfl⟩)
        | refine WpOps.gsplit _ rfl rfl rfl (fun h => ?_) (fun h => ?_)
        | refine WpOps.nil ?_
        | refine WpA.ret ?_
        | refine WpA.skip ?_
        | refine WpA.condT rfl ?_
        | refine WpA.condF rfl ?_
        | refine WpA.cond _ rfl (fun h => ?_) (fun h => ?_)
      all_goals exact retK.ok («as» := [.bool true]) (by kernel_rfl) (by kernel_rfl) rfl .bool
end Go.Gp.Tryd
