/-
  ImageKnown's body.
-/
import Derived.Test.YtcbagjhbmdmjfaaDoorK1
import Derived.Test.YtcbagjhbmdmjfaaDoorK2
set_option linter.unusedSimpArgs false
set_option linter.unusedVariables false
set_option linter.unusedSectionVars false
namespace Go.Proofs.YtcbagjhbmdmjfaaDoor
set_option maxRecDepth 100000
open Go Go.Mini Go.Proofs.Tryd

set_option maxHeartbeats 4000000 in
theorem imageKnown_call {h : Hp} {K : Value → Hp → Prop} (hE : HasErr h) (hn : 100 < h.next) (hK : ∀ h', K (.bool true) h') : ACall prog 8 [] h K := by
  refine acallF_of tb0 func8 rfl rfl mixed (by kernel_rfl) fun hwf => ?_
  simp -dsimp (disch := omega)
  refine given_call fun h1 b1 x1 l1 m1 d1 => ?_
  simp -dsimp (disch := omega)
  have n1 := x1.le
  refine build_call (x := 2147483648) (l := [gG]) (by omega) ⟨rfl, .inr ⟨_, _, _, rfl, d1, by simp, fun j hj => by simp [sgC, gG]⟩⟩ (by intro g hg; simp at hg; subst hg; exact ⟨by decide, by decide⟩) (by simp) (fun h => absurd given_build h) (fun _ => ?_)
  have q1 := gB_len
  have q2 := gB_25
  have k1 := fk1
  have k2 := fk2
  have k3 := fk3
  have k8 := fk8
  have k9 := fk9
  have k10 := fk10
  have k11 := fk11
  have k12 := fk12
  have k13 := fk13
  have k14 := fk14
  rw [show bldS 2147483648 [gG] = gB from rfl]
  obtain ⟨B, hB⟩ : ∃ B, B = gB := ⟨_, rfl⟩
  rw [← hB] at q1 q2 k1 k2 k3 k8 k9 k10 k11 k12 k13 k14 ⊢
  clear hB
  have hsz : (txt B).size = 29 := q1
  have ex0 : ∀ k, (txt B).extract 0 k = txt (B.take k) := fun k => by rw [ext_txt]; rfl
  have tl : ∀ k, (B.take k).length ≤ 29 := fun k => by rw [List.length_take]; omega
  have aw : ∀ {h'}, Ext h h' → HasErr h' := fun e => hE.ext e hn
  simp -dsimp (disch := omega) [hsz, ex0, q2]
  refine awake_call (aw x1) (by omega) ?_
  simp -dsimp (disch := omega) [hsz, ex0, q2]
  refine faults_call (S := B.take 28) (by have := tl 28; omega) (aw x1) (by omega) k1 ?_
  simp -dsimp (disch := first | omega | (simp only [txt_size, List.length_cons, List.length_nil]; omega)) [hsz, ex0, q2]
  refine faults_call (S := B ++ [120]) (by rw [List.length_append]; simp; omega) (aw x1) (by omega) k2 ?_
  simp -dsimp (disch := first | omega | (simp only [txt_size, List.length_cons, List.length_nil]; have := tl 28; omega)) [hsz, ex0, q2]
  refine faults_call (S := B.take 28 ++ [120]) (by rw [List.length_append]; have := tl 28; simp; omega) (aw x1) (by omega) k3 ?_
  simp -dsimp (disch := omega) [hsz, ex0, q2]
  refine faults_call (S := [65, 76, 77, 49, 1, 0, 0, 128, 0, 0, 0, 0]) (by simp) (aw x1) (by omega) fk4 ?_
  simp -dsimp (disch := first | omega | (simp only [txt_size, List.length_cons, List.length_nil]; have := tl 12; omega)) [hsz, ex0, q2]
  refine faults_call (S := [65, 76, 77, 49, 0, 16, 0, 128, 0, 0, 0, 0]) (by simp) (aw x1) (by omega) fk5 ?_
  simp -dsimp (disch := first | omega | (simp only [txt_size, List.length_cons, List.length_nil]; have := tl 12; omega)) [hsz, ex0, q2]
  refine faults_call (S := [65, 76, 77]) (by simp) (aw x1) (by omega) fk6 ?_
  simp -dsimp (disch := first | omega | (simp only [txt_size, List.length_cons, List.length_nil]; have := tl 12; omega)) [hsz, ex0, q2]
  refine faults_call (S := [65, 76, 77, 49, 0]) (by simp) (aw x1) (by omega) fk7 ?_
  simp -dsimp (disch := first | omega | (simp only [txt_size, List.length_cons, List.length_nil]; have := tl 12; omega)) [hsz, ex0, q2]
  refine faults_call (S := B.take 12) (by have := tl 12; omega) (aw x1) (by omega) k8 ?_
  simp -dsimp (disch := first | omega | (simp only [txt_size, List.length_cons, List.length_nil]; have := tl 12; omega)) [hsz, ex0, q2]
  refine faults_call (S := B.take 12 ++ [9]) (by rw [List.length_append]; have := tl 12; simp; omega) (aw x1) (by omega) k9 ?_
  simp -dsimp (disch := first | omega | (simp only [txt_size, List.length_cons, List.length_nil]; have := tl 12; omega)) [hsz, ex0, q2]
  refine faults_call (S := B.take 20) (by have := tl 20; omega) (aw x1) (by omega) k10 ?_
  simp -dsimp (disch := first | omega | (simp only [txt_size, List.length_cons, List.length_nil]; have := tl 12; omega)) [hsz, ex0, q2]
  refine faults_call (S := B.take 22) (by have := tl 22; omega) (aw x1) (by omega) k11 ?_
  simp -dsimp (disch := first | omega | (simp only [txt_size, List.length_cons, List.length_nil]; have := tl 21; omega)) [hsz, ex0, q2]
  refine faults_call (S := B.take 21 ++ [0, 0]) (by rw [List.length_append]; have := tl 21; simp; omega) (aw x1) (by omega) k12 ?_
  simp -dsimp (disch := first | omega | (simp only [txt_size, List.length_cons, List.length_nil]; have := tl 12; omega)) [hsz, ex0, q2]
  refine faults_call (S := B.take 24) (by have := tl 24; omega) (aw x1) (by omega) k13 ?_
  simp -dsimp (disch := first | omega | (simp only [txt_size, List.length_cons, List.length_nil]; have := tl 13; omega)) [hsz, ex0, q2]
  refine faults_call (S := B.take 13 ++ [255, 15, 0, 128, 0, 0, 0, 0, 2, 0]) (by rw [List.length_append]; have := tl 13; simp; omega) (aw x1) (by omega) k14 ?_
  simp -dsimp (disch := first | omega | (simp only [txt_size, List.length_cons, List.length_nil]; have := tl 12; omega)) [hsz, ex0, q2]
  refine parse_call (S := B) (n := 0) (by omega) fun h2 w2 er2 x2 ie2 ir2 => ?_
  rw [fk15] at ie2
  obtain rfl := ie2
  have x02 : Ext h h2 := x1.trans x2
  have n2 := x2.le
  obtain ⟨wa2, wc2, rfl⟩ := ir2.slice
  simp -dsimp (disch := omega) [imV]
  obtain ⟨h3, hh3⟩ : ∃ h3, h3 = h2.alloc ⟨#[.int .u64 (prX B 0), .slice wa2 (prL B 0).length wc2], 1, true⟩ := ⟨_, rfl⟩
  have x03 : Ext h h3 := by rw [hh3]; exact x02.trans (Ext.alloc _ _)
  have n3 := x03.le
  rw [← hh3]
  refine where_call (e := .num 2) rfl (aw x03) (by omega) ?_
  simp -dsimp (disch := omega) [Er.field, Er.place]
  obtain ⟨h4, hh4⟩ : ∃ h4, h4 = h3.alloc ⟨#[.string (txt [101, 110, 116, 114, 121]), .int .i64 4, .int .i64 8], 1, true⟩ := ⟨_, rfl⟩
  have x34 : Ext h3 h4 := by rw [hh4]; exact Ext.alloc _ _
  have x04 : Ext h h4 := x03.trans x34
  have n4 : h4.next = h3.next + 1 := by rw [hh4]; simp
  have f4 : h4.blks h3.next = some (faultB (txt [101, 110, 116, 114, 121]) 4 8) := by rw [hh4]; exact blks_alloc_eq _ _
  rw [← hh4]
  refine given_call fun h5 b5 x5 l5 m5 d5 => ?_
  have n5 := x5.le
  simp -dsimp (disch := omega) [d5]
  refine app_full (old := #[.int .u64 2147483650, .string (txt [97, 98])]) ?_ (src_slice _ _ _ _ _ #[.int .u64 2147483651, .string (txt [99])] (by simp (disch := omega))) (by unfold ROOM; omega) ?_
  · unfold Mini.rowAt
    simp (disch := omega) [d5]
  simp -dsimp (disch := omega)
  obtain ⟨h6, hh6⟩ : ∃ h6, h6 = ((h5.alloc ⟨#[.int .u64 2147483648, .slice (some ⟨h5.next + 1 + 1, 0, none⟩) 2 5], 1, true⟩).alloc ⟨#[.int .u64 2147483651, .string (txt [99])], 2, true⟩).alloc ⟨#[.int .u64 2147483650, .string (txt [97, 98]), .int .u64 2147483651, .string (txt [99])], 2, true⟩ := ⟨_, rfl⟩
  have x56 : Ext h5 h6 := by rw [hh6]; exact ((Ext.alloc _ _).trans (Ext.alloc _ _)).trans (Ext.alloc _ _)
  have n6 : h6.next = h5.next + 3 := by rw [hh6]; simp
  have t6 : h6.blks h5.next = some ⟨#[.int .u64 2147483648, .slice (some ⟨h5.next + 1 + 1, 0, none⟩) 2 5], 1, true⟩ := by rw [hh6]; simp (disch := omega)
  have s6 : h6.blks (h5.next + 1 + 1) = some ⟨#[.int .u64 2147483650, .string (txt [97, 98]), .int .u64 2147483651, .string (txt [99])], 2, true⟩ := by rw [hh6]; simp (disch := omega)
  have x06 : Ext h h6 := (x04.trans x5).trans x56
  have f6 : h6.blks h3.next = some (faultB (txt [101, 110, 116, 114, 121]) 4 8) := (x56.same _ (by omega)).trans ((x5.same _ (by omega)).trans f4)
  rw [← hh6]
  clear hh6 hh4 hh3
  refine given_call fun h7 b7 x7 l7 m7 d7 => ?_
  have n7 := x7.le
  simp -dsimp (disch := omega)
  refine given_call fun h8 b8 x8 l8 m8 d8 => ?_
  have n8 := x8.le
  simp -dsimp (disch := omega)
  refine given_call fun h9 b9 x9 l9 m9 d9 => ?_
  have n9 := x9.le
  simp -dsimp (disch := omega) [d9]
  refine mk_row (n := 9) rfl rfl ⟨by unfold ROOM; omega, by unfold ROOM; omega⟩ ?_
  simp -dsimp (disch := omega) [d9]
  dsimp only [List.append]
  simp -dsimp (disch := omega)
  refine ACallF.gen fun G hG => ?_
  try rw [← hG]
  have g7 : h9.blks b7 = some ⟨#[.int .u64 2147483650, .string (txt [97, 98])], 2, true⟩ := (x9.same _ (by omega)).trans ((x8.same _ (by omega)).trans d7)
  have gn : G.next = h9.next + 4 := by rw [hG]; simp (disch := omega)
  have gGa : G.blks h9.next = some ⟨#[.int .u64 2147483649, .slice (some ⟨b7, 0, none⟩) 1 2], 1, true⟩ := by rw [hG]; simp (disch := omega)
  have gG1 : G.blks (h9.next + 1) = some ⟨#[.int .u64 2147483648, .slice (some ⟨h9.next + 1 + 1 + 1, 0, none⟩) 9 18], 1, true⟩ := by rw [hG]; simp (disch := omega)
  have gG2 : G.blks (h9.next + 1 + 1) = some ⟨#[.int .u64 2147483648, .slice (some ⟨b9, 0, none⟩) 1 2], 1, true⟩ := by rw [hG]; simp (disch := omega)
  have gz : G.blks (h9.next + 1 + 1 + 1) = some ⟨zeroRow #[.int .u64 0, .string (txt [])] 18, 2, true⟩ := by rw [hG]; simp (disch := omega)
  have gb7 : G.blks b7 = some ⟨#[.int .u64 2147483650, .string (txt [97, 98])], 2, true⟩ := by rw [hG]; simp (disch := omega) [g7]
  have gb9 : G.blks b9 = some ⟨#[.int .u64 2147483650, .string (txt [])], 2, true⟩ := by rw [hG]; simp (disch := omega)
  have x69 : Ext h6 h9 := (x7.trans x8).trans x9
  have gold : ∀ i, i < h6.next → G.blks i = h6.blks i := fun i hi => by
    rw [← x69.same i hi, hG]
    simp (disch := omega)
  have xG : ∀ i, i < h.next → G.blks i = h.blks i := fun i hi => by rw [gold i (by omega)]; exact x06.same i hi
  have eG : Ext h G := ⟨by omega, xG⟩
  have hz : zeroRow #[.int .u64 0, .string (txt [])] 18 = (sgC (List.replicate 9 ⟨0, []⟩)).toArray := by kernel_rfl
  rw [hz] at gz
  have gt : G.blks h5.next = some ⟨#[.int .u64 2147483648, .slice (some ⟨h5.next + 1 + 1, 0, none⟩) 2 5], 1, true⟩ := (gold _ (by omega)).trans t6
  have gs : G.blks (h5.next + 1 + 1) = some ⟨#[.int .u64 2147483650, .string (txt [97, 98]), .int .u64 2147483651, .string (txt [99])], 2, true⟩ := (gold _ (by omega)).trans s6
  have gf : G.blks h3.next = some (faultB (txt [101, 110, 116, 114, 121]) 4 8) := (gold _ (by omega)).trans f6
  clear hG gold xG x69 g7
  refine code_call (e := .num 2) rfl (aw eG) (by omega) ?_
  simp -dsimp (disch := omega) [Er.code]
  refine code_call (e := .nil) rfl (aw eG) (by omega) ?_
  simp -dsimp (disch := omega) [Er.code]
  refine new_call ?_
  obtain ⟨W, hW⟩ : ∃ W, W = G.alloc ⟨#[.string (txt [120])], 1, true⟩ := ⟨_, rfl⟩
  have xW : Ext G W := by rw [hW]; exact Ext.alloc _ _
  have eW : Ext h W := eG.trans xW
  have nW := xW.le
  have wt := (xW.same _ (by omega)).trans gt
  have ws := (xW.same _ (by omega)).trans gs
  have wf := (xW.same _ (by omega)).trans gf
  have wG := (xW.same _ (by omega)).trans gGa
  have wG1 := (xW.same _ (by omega)).trans gG1
  have wG2 := (xW.same _ (by omega)).trans gG2
  have wz := (xW.same _ (by omega)).trans gz
  have wb7 := (xW.same _ (by omega)).trans gb7
  have wb9 := (xW.same _ (by omega)).trans gb9
  simp -dsimp (disch := omega)
  rw [← hW]
  refine code_new_call (aw eW) (by omega) ?_
  simp -dsimp (disch := omega)
  refine error_call wf ?_
  simp -dsimp (disch := omega)
  refine error_nil ?_
  simp -dsimp (disch := omega)
  refine unwrap_nil ?_
  simp -dsimp (disch := omega) [wt]
  have ok1 : ∀ g ∈ [gG, (⟨2147483651, [99]⟩ : Sg)], g.ok := by
    intro g hg
    simp at hg
    rcases hg with rfl | rfl
    · exact ⟨by decide, by decide⟩
    · exact ⟨by decide, by decide⟩
  refine check_call (x := 2147483648) (l := [gG, ⟨2147483651, [99]⟩]) (by omega) ⟨rfl, .inr ⟨_, _, _, rfl, ws, by simp, fun j hj => by simp [sgC, gG]⟩⟩ ok1 (by simp) ?_
  rw [ck1]
  simp -dsimp (disch := omega) [wG]
  have ok2 : ∀ g ∈ [gG], g.ok := by intro g hg; simp at hg; subst hg; exact ⟨by decide, by decide⟩
  refine check_call (x := 2147483649) (l := [gG]) (by omega) ⟨rfl, .inr ⟨_, _, _, rfl, wb7, by simp, fun j hj => by simp [sgC, gG]⟩⟩ ok2 (by simp) ?_
  rw [ck2]
  simp -dsimp (disch := omega) [wG1]
  have ok3 : ∀ g ∈ List.replicate 9 (⟨0, []⟩ : Sg), g.ok := by
    intro g hg
    obtain rfl := (List.mem_replicate.1 hg).2
    exact ⟨by decide, by decide⟩
  refine check_call (x := 2147483648) (l := List.replicate 9 ⟨0, []⟩) (by omega) ⟨rfl, .inr ⟨_, _, _, rfl, wz, by simp [sgC_length], fun j hj => by simp⟩⟩ ok3 (by simp) ?_
  rw [ck3]
  simp -dsimp (disch := omega) [wG2]
  have ok4 : ∀ g ∈ [(⟨2147483650, []⟩ : Sg)], g.ok := by intro g hg; simp at hg; subst hg; exact ⟨by decide, by decide⟩
  refine check_call (x := 2147483648) (l := [⟨2147483650, []⟩]) (by omega) ⟨rfl, .inr ⟨_, _, _, rfl, wb9, by simp, fun j hj => by simp [sgC]⟩⟩ ok4 (by simp) ?_
  rw [ck4]
  simp -dsimp (disch := omega)
  refine given_call fun y1 c1 z1 u1 v1 e1 => ?_
  simp -dsimp (disch := omega)
  have hy1 := z1.le
  refine check_call (x := 2147483648) (l := [gG]) (by omega) ⟨rfl, .inr ⟨_, _, _, rfl, e1, by simp, fun j hj => by simp [sgC, gG]⟩⟩ ok2 (by simp) ?_
  rw [ck5]
  simp -dsimp (disch := omega)
  refine given_call fun y2 c2 z2 u2 v2 e2 => ?_
  have hy2 := z2.le
  simp -dsimp (disch := omega)
  refine load_nil (x := 2147483648) ?_
  simp -dsimp (disch := omega)
  refine awake_call (aw ((eW.trans z1).trans z2)) (by omega) ?_
  simp -dsimp (disch := omega)
  exact RetF.all (by simp) (hK _)
end Go.Proofs.YtcbagjhbmdmjfaaDoor
