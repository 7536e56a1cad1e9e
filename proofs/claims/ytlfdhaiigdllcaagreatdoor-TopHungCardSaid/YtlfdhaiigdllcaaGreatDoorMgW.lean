/- toph: loadin.of at the set and the jobs of the witness. -/
import Derived.Test.YtlfdhaiigdllcaaGreatDoorMgV

namespace Go.Proofs.YtlfdhaiigdllcaaGreatDoor
open Tryz Go.RowKit Go.Shelf
set_option maxHeartbeats 1000000
set_option maxRecDepth 100000
set_option maxHeartbeats 4000000 in
theorem of_ok (w : World) (ar ab aj : Addr) (Ai : Option Addr) (cr ci cb cj : Nat) (hcj : 2 ≤ cj)
    (hj0 : ∀ j u, [Value.string ⟨#[97]⟩, .bool false, .int .i64 16][j]? = some u → w.cell? (aj.add j) = some u)
    (hj1 : ∀ j u, [Value.string ⟨#[98]⟩, .bool true, .int .i64 18][j]? = some u → w.cell? (aj.add (3 + j)) = some u)
    (c24 : ∀ w', Below w.heap.size w w' → Calls prog 24 #[SetV ar ab Ai cr ci cb] w' fun e w'' => e = .returned (.bool true) ∧ Below w'.heap.size w' w'')
    (c34 : ∀ w', Below w.heap.size w w' → Calls prog 34 #[.slice (some aj) 2 cj] w' fun e w'' => e = .returned (.bool true) ∧ Below w'.heap.size w' w'')
    (c86 : ∀ w', Below w.heap.size w w' → Calls prog 86 #[SetV ar ab Ai cr ci cb, .int .i64 0, .int .i64 0] w' fun e w'' => e = .returned (.tuple #[.int .i64 6, .int .i64 0]) ∧ Below w'.heap.size w' w'')
    (c9a : ∀ w', Below w.heap.size w w' → Calls prog 9 #[SetV ar ab Ai cr ci cb, .agg #[.string ⟨#[97]⟩, .bool false, .int .i64 16]] w' fun e w'' => e = .returned (.tuple #[.int .i64 (-16), .int .i64 0]) ∧ Below w'.heap.size w' w'')
    (c9b : ∀ w', Below w.heap.size w w' → Calls prog 9 #[SetV ar ab Ai cr ci cb, .agg #[.string ⟨#[98]⟩, .bool true, .int .i64 18]] w' fun e w'' => e = .returned (.tuple #[.int .i64 18, .int .i64 0]) ∧ Below w'.heap.size w' w'') :
    Calls prog 47 #[SetV ar ab Ai cr ci cb, .slice (some aj) 2 cj] w fun e w' => ∃ L gB, e = .returned (.tuple #[.pointer (some ⟨L, 0, none⟩), .int .i64 0]) ∧ Below w.heap.size w w' ∧ w.heap.size ≤ L ∧ L < w'.heap.size ∧ w.heap.size ≤ gB ∧ gB < w'.heap.size ∧
      w'.cell? ⟨L, 0, none⟩ = some (.int .i64 2) ∧ w'.cell? ⟨L, 3, none⟩ = some (.slice (some ⟨gB, 0, none⟩) 4 4) ∧ w'.cell? ⟨gB, 0, none⟩ = some (.bool true) ∧ w'.cell? ⟨gB, 1, none⟩ = some (.bool true) ∧ w'.cell? ⟨gB, 3, none⟩ = some (.bool true) := by
  go_enter Tryz.func47, Tryz.ntmps47
  go_wp2_with (go_at_call 24; refine (c24 _ (bel1 _ _)).mono ?_)
  rintro e w1 ⟨rfl, hb1⟩
  have hS := (hb1.block w.heap.size (by rw [sz1]; omega)).trans (al1 _ _)
  have hw1 : Below w.heap.size w w1 := (bel1 _ _).trans (hb1.mono (by rw [sz1]; omega))
  have hs1 : w.heap.size + 1 ≤ w1.heap.size := by have := hb1.size; rw [sz1] at this; exact this
  clear hb1
  go_wp2_with (go_at_call 34; refine (c34 _ hw1).mono ?_)
  rintro e w2 ⟨rfl, hb2⟩
  replace hS := (hb2.block w.heap.size (by omega)).trans hS
  have hw2 := hw1.trans (hb2.mono (by omega))
  have hs2 : w.heap.size + 1 ≤ w2.heap.size := by have := hb2.size; omega
  clear hb2 hw1 hs1
  obtain ⟨s0, s1, s2, s3, s4, s5, s6, s7, s8, s9, s10, s11, s12⟩ := set_cells hS
  go_wp2_with (go_at_call 86; refine (c86 _ hw2).mono ?_)
  rintro e w3 ⟨rfl, hb3⟩
  replace hS := (hb3.block w.heap.size (by omega)).trans hS
  have hw3 := hw2.trans (hb3.mono (by omega))
  have hs3 : w.heap.size + 1 ≤ w3.heap.size := by have := hb3.size; omega
  clear hb3 hw2 hs2 s0 s1 s2 s3 s4 s5 s6 s7 s8 s9 s10 s11 s12
  have h64 := bw2
  have hmk : ∀ W, (Instr.makeSlice 96 (.int .i64 4) (.int .i64 4)).run prog W = .ok (.slice (some ⟨W.heap.size, 0, none⟩) 4 4) (W.alloc (.cells F4 4)) := mk96
  have hmi : ∀ W, (Instr.makeSlice 31 (.int .i64 4) (.int .i64 4)).run prog W = .ok (.slice (some ⟨W.heap.size, 0, none⟩) 4 4) (W.alloc (.cells #[.int .i64 0, .int .i64 0, .int .i64 0, .int .i64 0] 3)) := mk31
  have hw4 : IntKind.i64.wrap 4 = 4 := by kernel_rfl
  go_upto_region 9 with fail
  go_cut [9] from 43 to 54 (fun s9 wx => ∃ hB rB gB L V, s9 = .pointer (some ⟨V, 0, none⟩) ∧ Lt w wx (SetO ar ab Ai cr ci cb) hB rB gB L V F4 F4 F4)
  case first =>
    go_region
    all_goals
      go_wp2_with fail
      go_meet
      repeat apply Exists.intro
      refine ⟨rfl, ?_⟩
      apply Lt.mk
      case below => exact b5 _ _ _ _ _ _ hw3 hs3
      case size => rw [s5]; omega
      case set => exact (kept5 _ _ _ _ _ _ (by omega)).trans hS
      case v => first | exact a5_0 _ _ _ _ _ _ | exact a5_1 _ _ _ _ _ _ | exact a5_2 _ _ _ _ _ _ | exact a5_3 _ _ _ _ _ _ | exact a5_4 _ _ _ _ _ _
      case l => first | exact a5_0 _ _ _ _ _ _ | exact a5_1 _ _ _ _ _ _ | exact a5_2 _ _ _ _ _ _ | exact a5_3 _ _ _ _ _ _ | exact a5_4 _ _ _ _ _ _
      case h => first | exact a5_0 _ _ _ _ _ _ | exact a5_1 _ _ _ _ _ _ | exact a5_2 _ _ _ _ _ _ | exact a5_3 _ _ _ _ _ _ | exact a5_4 _ _ _ _ _ _
      case r => first | exact a5_0 _ _ _ _ _ _ | exact a5_1 _ _ _ _ _ _ | exact a5_2 _ _ _ _ _ _ | exact a5_3 _ _ _ _ _ _ | exact a5_4 _ _ _ _ _ _
      case g => first | exact a5_0 _ _ _ _ _ _ | exact a5_1 _ _ _ _ _ _ | exact a5_2 _ _ _ _ _ _ | exact a5_3 _ _ _ _ _ _ | exact a5_4 _ _ _ _ _ _
      case d => refine ⟨?_, ?_, ?_, ?_, ?_, ?_, ?_, ?_, ?_, ?_, ?_, ?_, ?_, ?_, ?_⟩ <;> omega
  case rest =>
  obtain ⟨hB, rB, gB, L, V, rfl, hL⟩ := hcut
  clear hS hw3 hs3 hmk
  obtain ⟨d1, d2, d3, d4, d5, d6, d7, d8, d9, d10, d11, d12, d13, d14, d15⟩ := hL.d
  have hA := hL.begin #[.int .i64 6, .int .i64 0, .int .i64 0, .int .i64 0]
  go_upto_region 12 with fail
  obtain ⟨W, hW⟩ : ∃ W, W = wc.alloc (.cells #[.int .i64 6, .int .i64 0, .int .i64 0, .int .i64 0] 3) := ⟨_, rfl⟩
  obtain ⟨I, hI⟩ : ∃ I, I = wc.heap.size := ⟨_, rfl⟩
  rw [← hW, ← hI] at hA ⊢
  clear hL hmi hW hI wc
  have jA : ∀ W', Below w.heap.size w W' → W'.cell? aj = some (.string ⟨#[97]⟩) ∧ W'.cell? ⟨aj.block, aj.off + 1, none⟩ = some (.bool false) ∧ W'.cell? ⟨aj.block, aj.off + 2, none⟩ = some (.int .i64 16) := fun W' hb => by
    have k : ∀ j u, [Value.string ⟨#[97]⟩, .bool false, .int .i64 16][j]? = some u → W'.cell? (aj.add j) = some u := fun j u hu => (hb.cell (World.block_lt_of_cell? w _ (hj0 j u hu))).trans (hj0 j u hu)
    have k0 := k 0 _ rfl
    have k1 := k 1 _ rfl
    have k2 := k 2 _ rfl
    rw [ad0'] at k0
    rw [adS] at k1 k2
    exact ⟨k0, k1, k2⟩
  have jB : ∀ W', Below w.heap.size w W' → W'.cell? ⟨aj.block, aj.off + 3, none⟩ = some (.string ⟨#[98]⟩) ∧ W'.cell? ⟨aj.block, aj.off + 3 + 1, none⟩ = some (.bool true) ∧ W'.cell? ⟨aj.block, aj.off + 3 + 2, none⟩ = some (.int .i64 18) := fun W' hb => by
    have k : ∀ j u, [Value.string ⟨#[98]⟩, .bool true, .int .i64 18][j]? = some u → W'.cell? (aj.add (3 + j)) = some u := fun j u hu => (hb.cell (World.block_lt_of_cell? w _ (hj1 j u hu))).trans (hj1 j u hu)
    have k0 := k 0 _ rfl
    have k1 := k 1 _ rfl
    have k2 := k 2 _ rfl
    rw [show 3 + 0 = 2 + 1 from rfl, adS] at k0
    rw [show 3 + 1 = 3 + 1 from rfl, adS] at k1
    rw [show 3 + 2 = 4 + 1 from rfl, adS] at k2
    exact ⟨k0, k1, k2⟩
  go_cut [61, 62, 63] from 185 to 185 (fun s61 s62 s63 wx => s61 = .slice (some aj) 2 cj ∧ s62 = .int .i64 2 ∧ s63 = .int .i64 0 ∧ wx = W)
  case first => go_wp2_with fail; go_meet; exact ⟨rfl, rfl, rfl, rfl⟩
  case rest =>
  obtain ⟨rfl, rfl, rfl, rfl⟩ := hcut
  go_step
  go_cut [] from 185 to 185 (fun wx => Ls w wx (SetO ar ab Ai cr ci cb) hB rB gB L V I F4 F4 F4 #[.int .i64 6, .int .i64 (-10), .int .i64 24, .int .i64 8])
  case first =>
    obtain ⟨j0, j1, j2⟩ := jA wc hA.below
    have hJ := hA.al (.cells #[.string ⟨#[97]⟩, .bool false, .int .i64 16] 43)
    obtain ⟨s0, s1, s2, s3, s4, s5, s6, s7, s8, s9, s10, s11, s12⟩ := set_cells hJ.set
    go_wp2_with fail
    refine wp_loop_rounds 3 ?_
    rw [rounds_succ]
    go_wp2_with (go_at_call 9; refine (c9a _ hJ.below).mono ?_)
    rintro e w4 ⟨rfl, hb4⟩
    have hK := hJ.kept hb4
    clear s0 s1 s2 s3 s4 s5 s6 s7 s8 s9 s10 s11 s12 hb4 j0 j1 j2 hJ
    obtain ⟨i0, i1, i2, i3, f0, f1, f2, f3⟩ := row4 hK.i
    have q0 := bor01
    have q1 := bw1
    have q2 := wm10
    go_wp2_with fail
    refine wp_loop_rounds 2 ?_
    rw [rounds_succ]
    go_wp2_with fail
    go_region
    replace hK := (hK.setI 1 (.int .i64 (-10))).drew
    clear i0 i1 i2 i3 f0 f1 f2 f3
    generalize (w4.setCell ⟨I, 1, none⟩ (.int .i64 (-10))).drew = w5 at hK ⊢
    go_wp2_with fail
    rw [rounds_succ]
    go_wp2_with fail
    obtain ⟨j0, j1, j2⟩ := jB w5 hK.below
    have hJ := hK.al (.cells #[.string ⟨#[98]⟩, .bool true, .int .i64 18] 43)
    obtain ⟨s0, s1, s2, s3, s4, s5, s6, s7, s8, s9, s10, s11, s12⟩ := set_cells hJ.set
    rw [rounds_succ]
    go_wp2_with (go_at_call 9; refine (c9b _ hJ.below).mono ?_)
    rintro e w6 ⟨rfl, hb6⟩
    replace hK := hJ.kept hb6
    clear s0 s1 s2 s3 s4 s5 s6 s7 s8 s9 s10 s11 s12 hb6 j0 j1 j2 hJ
    obtain ⟨i0, i1, i2, i3, f0, f1, f2, f3⟩ := row4 hK.i
    have q3 := bor02
    have q4 := bor12
    have q5 := wm24
    have q6 := wm8
    go_wp2_with fail
    refine wp_loop_rounds 3 ?_
    rw [rounds_succ]
    go_wp2_with fail
    go_region
    replace hK := (hK.setI 2 (.int .i64 24)).drew
    clear i0 i1 i2 i3 f0 f1 f2 f3
    generalize (w6.setCell ⟨I, 2, none⟩ (.int .i64 24)).drew = w7 at hK ⊢
    obtain ⟨i0, i1, i2, i3, f0, f1, f2, f3⟩ := row4 hK.i
    go_wp2_with fail
    rw [rounds_succ]
    go_wp2_with fail
    go_region
    replace hK := (hK.setI 3 (.int .i64 8)).drew
    clear i0 i1 i2 i3 f0 f1 f2 f3
    generalize (w7.setCell ⟨I, 3, none⟩ (.int .i64 8)).drew = w8 at hK ⊢
    go_wp2_with fail
    rw [rounds_succ]
    go_wp2_with fail
    rw [rounds_succ]
    go_wp2_with fail
    go_meet
    exact hK
  case rest =>
  have hA := hcut
  clear hcut jA jB c9a c9b c86 c24 c34 hj0 hj1 d1 d2 d3 d4 d5 d6 d7 d8 d9 d10 d11 d12 d13 d14 d15
  go_upto_region 24 with fail
  go_cut [96, 97, 98] from 185 to 185 (fun s96 s97 s98 wx => s96 = .slice (some ⟨I, 0, none⟩) 4 4 ∧ s97 = .int .i64 4 ∧ s98 = .int .i64 0 ∧ wx = wc)
  case first => go_wp2_with fail; go_meet; exact ⟨rfl, rfl, rfl, rfl⟩
  case rest =>
  obtain ⟨rfl, rfl, rfl, rfl⟩ := hcut
  go_step
  go_cut [] from 185 to 185 (fun wx => Ls w wx (SetO ar ab Ai cr ci cb) hB rB gB L V I #[.bool true, .bool true, .bool false, .bool true] F4 F4 #[.int .i64 6, .int .i64 (-10), .int .i64 24, .int .i64 8])
  case first =>
    rename_i J K' hRJ hMK
    replace hMK : MetK J K' := hMK
    have q2 := wm10
    go_wp2_with fail
    refine wp_loop_rounds 5 ?_
    go_light
    rw [rounds_succ]
    have i0 := (row4 hA.i).1
    have n1 := (row4 hA.l).2.1
    have m0 := (row4 hA.h).1
    have e0 := (row4 hA.h).2.2.2.2.1
    have v0 := cell_of_one hA.v
    have s10 := (set_cells hA.set).2.2.2.2.2.2.2.2.2.2.1
    go_wp2_with fail
    go_big_region
    replace hA : Ls w (wc.setCell ⟨hB, 0, none⟩ (.bool true)).drew (SetO ar ab Ai cr ci cb) hB rB gB L V I #[.bool true, .bool false, .bool false, .bool false] F4 F4 #[.int .i64 6, .int .i64 (-10), .int .i64 24, .int .i64 8] := (hA.setH 0 (.bool true)).drew
    clear i0 n1 m0 e0 v0 s10
    generalize (wc.setCell ⟨hB, 0, none⟩ (.bool true)).drew = x0 at hA ⊢
    go_wp2_with fail
    go_light
    rw [rounds_succ]
    have i0 := (row4 hA.i).2.1
    have n1 := (row4 hA.l).2.1
    have m0 := (row4 hA.h).2.1
    have e0 := (row4 hA.h).2.2.2.2.2.1
    have v0 := cell_of_one hA.v
    have s10 := (set_cells hA.set).2.2.2.2.2.2.2.2.2.2.1
    go_wp2_with fail
    go_big_region
    replace hA : Ls w (x0.setCell ⟨hB, 1, none⟩ (.bool true)).drew (SetO ar ab Ai cr ci cb) hB rB gB L V I #[.bool true, .bool true, .bool false, .bool false] F4 F4 #[.int .i64 6, .int .i64 (-10), .int .i64 24, .int .i64 8] := (hA.setH 1 (.bool true)).drew
    clear i0 n1 m0 e0 v0 s10
    generalize (x0.setCell ⟨hB, 1, none⟩ (.bool true)).drew = x1 at hA ⊢
    go_wp2_with fail
    go_light
    rw [rounds_succ]
    have i0 := (row4 hA.i).2.2.1
    have n1 := (row4 hA.l).2.1
    have m0 := (row4 hA.h).2.2.1
    have e0 := (row4 hA.h).2.2.2.2.2.2.1
    have v0 := cell_of_one hA.v
    have s10 := (set_cells hA.set).2.2.2.2.2.2.2.2.2.2.1
    go_wp2_with fail
    go_big_region
    replace hA : Ls w (x1.setCell ⟨hB, 2, none⟩ (.bool false)).drew (SetO ar ab Ai cr ci cb) hB rB gB L V I #[.bool true, .bool true, .bool false, .bool false] F4 F4 #[.int .i64 6, .int .i64 (-10), .int .i64 24, .int .i64 8] := (hA.setH 2 (.bool false)).drew
    clear i0 n1 m0 e0 v0 s10
    generalize (x1.setCell ⟨hB, 2, none⟩ (.bool false)).drew = x2 at hA ⊢
    go_wp2_with fail
    go_light
    rw [rounds_succ]
    have i0 := (row4 hA.i).2.2.2.1
    have n1 := (row4 hA.l).2.1
    have m0 := (row4 hA.h).2.2.2.1
    have e0 := (row4 hA.h).2.2.2.2.2.2.2
    have v0 := cell_of_one hA.v
    have s10 := (set_cells hA.set).2.2.2.2.2.2.2.2.2.2.1
    go_wp2_with fail
    go_big_region
    replace hA : Ls w (x2.setCell ⟨hB, 3, none⟩ (.bool true)).drew (SetO ar ab Ai cr ci cb) hB rB gB L V I #[.bool true, .bool true, .bool false, .bool true] F4 F4 #[.int .i64 6, .int .i64 (-10), .int .i64 24, .int .i64 8] := (hA.setH 3 (.bool true)).drew
    clear i0 n1 m0 e0 v0 s10
    generalize (x2.setCell ⟨hB, 3, none⟩ (.bool true)).drew = x3 at hA ⊢
    go_wp2_with fail
    go_light
    replace hMK : ∀ a w, Met J a w → K' a w := hMK
    rw [rounds_succ]
    go_wp2_with fail
    go_meet
    exact hA
  case rest =>
  have hA := hcut
  clear hcut
  have v0 := cell_of_one hA.v
  have n1 := (row4 hA.l).2.1
  go_upto_region 29 with fail
  go_cut [124, 125, 126] from 185 to 185 (fun s124 s125 s126 wx => s124 = .slice (some ⟨hB, 0, none⟩) 4 4 ∧ s125 = .int .i64 4 ∧ s126 = .int .i64 0 ∧ wx = wc)
  case first => go_wp2_with fail; go_meet; exact ⟨rfl, rfl, rfl, rfl⟩
  case rest =>
  obtain ⟨rfl, rfl, rfl, rfl⟩ := hcut
  clear v0 n1
  go_step
  refine reach_loop _ _ _ _ _ _ _ _ _ _ _ _ _ _ _ _ _ _ _ _ _ _ _ _ _ _ _ _ _ _ _ _ _ _ _ _ _ _ _ _ _ _ _ _ _ _ _ _ _ _ _ _ _ _ _ _ _ _ _ _ _ _ _ _ _ _ _ _ _ _ _ _ _ _ _ _ _ _ _ _ _ _ _ _ _ _ _ _ _ _ _ _ _ _ _ _ _ _ _ _ _ _ _ _ _ _ _ _ _ _ _ _ _ _ _ _ _ _ _ _ _ _ _ _ _ _ _ _ _ _ _ _ _ _ _ _ _ _ _ _ _ _ _ _ _ _ _ _ _ _ _ _ _ _ _ _ _ _ _ _ _ _ _ _ _ _ _ _ _ _ _ _ _ _ _ _ _ _ _ _ _ _ _ ⟨?_⟩ hA
  clear hA
  intro v18 v127 v128 v129 v130 v131 v132 v133 v134 v135 v136 v137 v138 v139 v140 v141 v142 v143 v144 v145 v146 v147 v148 v149 v150 v151 v152 xr hA
  have v0 := cell_of_one hA.v
  have n0 := (row4 hA.l).1
  go_upto_region 34 with fail
  go_cut [19] from 185 to 185 (fun s19 wx => ∃ S, s19 = .pointer (some ⟨S, 0, none⟩) ∧ wx.heap[S]? = some (.cells #[.int .i64 3] 3 (0, 0)) ∧ S ≠ gB ∧ Ls w wx (SetO ar ab Ai cr ci cb) hB rB gB L V I #[.bool true, .bool true, .bool false, .bool true] #[.bool true, .bool true, .bool false, .bool true] F4 #[.int .i64 6, .int .i64 (-10), .int .i64 24, .int .i64 8])
  case first =>
    go_wp2_with (go_at_call 48; refine (whole_ok n0).mono ?_; rintro e w1 ⟨rfl, rfl⟩)
    go_meet
    exact ⟨_, rfl, al1 _ _, by have := lt_of_block hA.g; omega, hA.al _⟩
  case rest =>
  obtain ⟨S, rfl, hT, hSg, hB2⟩ := hcut
  clear v0 n0 hA
  go_step
  refine good_loop _ _ _ _ _ _ _ _ _ _ _ _ _ _ _ _ _ _ _ _ _ _ _ _ _ _ _ _ _ _ _ _ _ _ _ _ _ _ _ _ _ _ _ _ _ _ _ _ _ _ _ _ _ _ _ _ _ _ _ _ _ _ _ _ _ _ _ _ _ _ _ _ _ _ _ _ _ _ _ _ _ _ _ _ _ _ _ _ _ _ _ _ _ _ _ _ _ _ _ _ _ _ _ _ _ _ _ _ _ _ _ _ _ _ _ _ _ _ _ _ _ _ _ _ _ _ _ _ _ _ _ _ _ _ _ _ _ _ _ _ _ _ _ _ _ _ _ _ _ _ _ _ _ _ _ _ _ _ _ _ _ _ _ _ _ _ _ _ _ _ _ _ _ _ _ _ _ _ _ _ _ _ _ _ ⟨?_⟩ hB2 hT hSg
  clear hB2 hT hSg
  intro z155 z156 z157 z158 z159 z160 z161 z162 z163 z164 z165 z166 z167 z168 z169 z170 z171 z172 z173 z174 z175 z176 z177 z178 z179 z180 z181 z182 z183 z184 S2 xg hA
  have v0 := cell_of_one hA.v
  go_wp2_with fail
  go_ret2
  obtain ⟨d1, d2, d3, d4, d5, d6, d7, d8, d9, d10, d11, d12, d13, d14, d15⟩ := hA.d
  obtain ⟨g0, g1, g2, g3, -⟩ := row4 hA.g
  exact ⟨L, gB, rfl, hA.below, by omega, lt_of_block hA.l, by omega, lt_of_block hA.g, (row4 hA.l).1, (row4 hA.l).2.2.2.1, g0, g1, g3⟩
end Go.Proofs.YtlfdhaiigdllcaaGreatDoor
