/- toph: loadin.Order: its closure. -/
import Derived.Test.YtlfdhaiigdllcaaGreatDoorMgW

namespace Go.Proofs.YtlfdhaiigdllcaaGreatDoor
open Tryz Go.RowKit Go.Shelf
set_option maxHeartbeats 1000000
set_option maxRecDepth 100000
theorem f50_10 {w : World} {S V O : Nat} (cS : w.cell? ⟨S, 0, none⟩ = some (.int .i64 1)) :
    Calls prog 50 #[.int .i64 0, .pointer (some ⟨S, 0, none⟩), .pointer (some ⟨V, 0, none⟩), .pointer (some ⟨O, 0, none⟩)] w fun e w' => e = .returned (.bool false) ∧ ∃ m, w' = w.drewN m := by
  have ha := ban1
  go_enter Tryz.func50, Tryz.ntmps50
  go_wp2_with fail
  go_quiet (fail)
  go_wp2_with fail
  go_ret
  exact ⟨rfl, _, rfl⟩
theorem f50_00 {w : World} {S V O L gB B M n : Nat} {v : Value} {xs : List Value} (hB : B ≤ w.heap.size) (hMO : M ≤ O) (hMS : M ≤ S) (hMB : M ≤ B) (hn : n ≤ 1000) (hO : w.heap[O]? = some (.cells #[v] 31 (0, 0))) (hOB : O < B) (hS : w.heap[S]? = some (.cells #[.int .i64 0] 3 (0, 0))) (hSO : S ≠ O)
    (hown : w.ownsRow B 3 1 v n xs) (hvS : v.ownBlock ≠ some S) (cV : w.cell? ⟨V, 0, none⟩ = some (.pointer (some ⟨L, 0, none⟩))) (cL : w.cell? ⟨L, 3, none⟩ = some (.slice (some ⟨gB, 0, none⟩) 4 4)) (c : w.cell? ⟨gB, 1, none⟩ = some (.bool true)) :
    Calls prog 50 #[.int .i64 0, .pointer (some ⟨S, 0, none⟩), .pointer (some ⟨V, 0, none⟩), .pointer (some ⟨O, 0, none⟩)] w fun e w' => e = .returned (.bool true) ∧ ∃ v', w'.heap[O]? = some (.cells #[v'] 31 (0, 0)) ∧ w'.heap[S]? = some (.cells #[.int .i64 1] 3 (0, 0)) ∧ w'.ownsRow B 3 1 v' (n + 1) (xs ++ [.int .i64 0]) ∧ v'.ownBlock ≠ some S ∧ Below M w w' ∧ w.heap.size ≤ w'.heap.size ∧ ∀ k, k < B → k ≠ O → k ≠ S → w'.heap[k]? = w.heap[k]? := by
  obtain ⟨i0, hi, hz0, hz1, hz2⟩ := info_parts infoI
  have hOl := lt_of_block hO
  have hSl := lt_of_block hS
  have cS := cell_of_one hS
  have cO := cell_of_one hO
  have hvO : some O ≠ v.ownBlock := fun e => by
    have := (hown.lt O e.symm).1
    omega
  have hw1 := bw1
  have hw2 := bw2
  have ha := ban0
  have hn1 := bor01
  go_enter Tryz.func50, Tryz.ntmps50
  go_wp2_with fail
  go_quiet (fail)
  have hown1 := World.ownsRow.alloc (w := w.drewN nq) (base := B) (e := 3) (size := 1) (v := v) (n := n) (xs := xs) hown (.cells #[.int .i64 0] 3)
  go_wp2_with (at_builtin; refine wpList_append_own_at _ rfl _ _ 31 rfl B 3 i0 (.int .i64 0) 1 8 Tryz.underlying31 hi hz0 hz1 hz2 rfl (by decide) _ _ _ rfl hown1 ⟨w.heap.size, 0, none⟩ 1 1 [.int .i64 0] rfl rfl ?c1 ?c2 ?c3 ?c4 ?c5 ?_)
  case c1 =>
    intro j u hj
    match j, hj with
    | 0, hj =>
      have e : Value.int .i64 0 = u := by simpa using hj
      subst e
      rw [ad0']
      exact cell_of_one (al1 (w.drewN nq) _)
  case c2 => intro u hu; simp at hu; subst hu; rfl
  case c3 => unfold maxLen; omega
  case c4 => omega
  case c5 => simp; omega
  intro v2 w2 hown' hgrow _ hat
  obtain ⟨ao, n2, cap, rfl⟩ : ∃ ao n2 cap, v2 = .slice ao n2 cap := by
    rcases hown'.2 with ⟨hv, _⟩ | ⟨g, cap, cur, hv, _⟩
    · exact ⟨_, _, _, hv⟩
    · exact ⟨_, _, _, hv⟩
  have hsz : w.heap.size + 1 ≤ w2.heap.size := by
    have := hgrow.size
    rw [sz1] at this
    exact this
  have hkeep : ∀ k, k < w.heap.size → some k ≠ v.ownBlock → w2.heap[k]? = w.heap[k]? := fun k hk hne =>
    (hgrow.block k (by rw [sz1]; show k < w.heap.size + 1; omega) hne).trans (Below.heap_alloc (w.drewN nq) _ _ hk)
  have hO2 := (hkeep O hOl hvO).trans hO
  have hS2 := (hkeep S hSl (fun e => hvS e.symm)).trans hS
  have dO := cell_of_one hO2
  have gO := free_of_one hO2
  have hvb : (Value.slice ao n2 cap).ownBlock ≠ some S := by
    rcases hat with h | h
    · rw [h]; exact hvS
    · rw [h]; intro e; injection e with e; omega
  have hvO' : (Value.slice ao n2 cap).ownBlock ≠ some O := by
    intro e
    have := (hown'.lt O e).1
    omega
  have hM2 : Below M w w2 := by
    have b0 : Below M w (w.drewN nq) := ⟨rfl, rfl, rfl, Nat.le_refl _, fun _ _ => rfl⟩
    have b1 := b0.alloc (by show M ≤ w.heap.size; omega) (.cells #[.int .i64 0] 3)
    exact b1.grown hgrow (by rw [sz1]; show M ≤ w.heap.size + 1; omega) (fun k hk => by have := (hown.lt k hk).1; omega)
  clear cV cL c cS cO ha hn1 hown1 hgrow hat hvO
  go_upto_region 4 with fail
  have hO3 := one_setCell (u := .slice ao n2 cap) hO2
  have hS3 : (w2.setCell ⟨O, 0, none⟩ (.slice ao n2 cap)).heap[S]? = some (.cells #[.int .i64 0] 3 (0, 0)) := (Below.heap_setCell _ _ _ _ hSO).trans hS2
  have hown3 := ownsRow_setCell_other (a := ⟨O, 0, none⟩) hown' hvO' (.slice ao n2 cap)
  have hM3 : Below M w (w2.setCell ⟨O, 0, none⟩ (.slice ao n2 cap)) := hM2.setCell (p := ⟨O, 0, none⟩) hMO _
  have hk3 : ∀ k, k < B → k ≠ O → (w2.setCell ⟨O, 0, none⟩ (.slice ao n2 cap)).heap[k]? = w.heap[k]? := fun k hk hne => (Below.heap_setCell _ _ _ _ hne).trans (hkeep k (by omega) (fun e => by have := (hown.lt k e.symm).1; omega))
  have hs3 : (w2.setCell ⟨O, 0, none⟩ (.slice ao n2 cap)).heap.size = w2.heap.size := sz_set _ _ _
  clear hO2 hS2 dO gO hown' hM2 hkeep hown
  generalize w2.setCell ⟨O, 0, none⟩ (.slice ao n2 cap) = w3 at hO3 hS3 hown3 hM3 hk3 hs3 ⊢
  have dS := cell_of_one hS3
  have gS := free_of_one hS3
  have hn1 := bor01
  go_region
  go_wp2_with fail
  go_ret
  refine ⟨rfl, _, (Below.heap_setCell _ _ _ _ hSO.symm).trans hO3, one_setCell hS3, ownsRow_setCell_other (a := ⟨S, 0, none⟩) hown3 hvb _, hvb, (hM3.setCell (p := ⟨S, 0, none⟩) hMS _).drew, ?_, fun k hk h1 h2 => (Below.heap_setCell _ _ _ _ h2).trans (hk3 k hk h1)⟩
  show w.heap.size ≤ (w3.setCell _ _).heap.size
  rw [sz_set]
  omega
theorem f50_11 {w : World} {S V O L gB B M n : Nat} {v : Value} {xs : List Value} (hB : B ≤ w.heap.size) (hMO : M ≤ O) (hMS : M ≤ S) (hMB : M ≤ B) (hn : n ≤ 1000) (hO : w.heap[O]? = some (.cells #[v] 31 (0, 0))) (hOB : O < B) (hS : w.heap[S]? = some (.cells #[.int .i64 1] 3 (0, 0))) (hSO : S ≠ O)
    (hown : w.ownsRow B 3 1 v n xs) (hvS : v.ownBlock ≠ some S) (cV : w.cell? ⟨V, 0, none⟩ = some (.pointer (some ⟨L, 0, none⟩))) (cL : w.cell? ⟨L, 3, none⟩ = some (.slice (some ⟨gB, 0, none⟩) 4 4)) (c : w.cell? ⟨gB, 3, none⟩ = some (.bool true)) :
    Calls prog 50 #[.int .i64 1, .pointer (some ⟨S, 0, none⟩), .pointer (some ⟨V, 0, none⟩), .pointer (some ⟨O, 0, none⟩)] w fun e w' => e = .returned (.bool true) ∧ ∃ v', w'.heap[O]? = some (.cells #[v'] 31 (0, 0)) ∧ w'.heap[S]? = some (.cells #[.int .i64 3] 3 (0, 0)) ∧ w'.ownsRow B 3 1 v' (n + 1) (xs ++ [.int .i64 1]) ∧ v'.ownBlock ≠ some S ∧ Below M w w' ∧ w.heap.size ≤ w'.heap.size ∧ ∀ k, k < B → k ≠ O → k ≠ S → w'.heap[k]? = w.heap[k]? := by
  obtain ⟨i0, hi, hz0, hz1, hz2⟩ := info_parts infoI
  have hOl := lt_of_block hO
  have hSl := lt_of_block hS
  have cS := cell_of_one hS
  have cO := cell_of_one hO
  have hvO : some O ≠ v.ownBlock := fun e => by
    have := (hown.lt O e.symm).1
    omega
  have hw1 := bw1
  have hw2 := bw2
  have ha := ban0
  have hn1 := bor12
  go_enter Tryz.func50, Tryz.ntmps50
  go_wp2_with fail
  go_quiet (fail)
  have hown1 := World.ownsRow.alloc (w := w.drewN nq) (base := B) (e := 3) (size := 1) (v := v) (n := n) (xs := xs) hown (.cells #[.int .i64 1] 3)
  go_wp2_with (at_builtin; refine wpList_append_own_at _ rfl _ _ 31 rfl B 3 i0 (.int .i64 0) 1 8 Tryz.underlying31 hi hz0 hz1 hz2 rfl (by decide) _ _ _ rfl hown1 ⟨w.heap.size, 0, none⟩ 1 1 [.int .i64 1] rfl rfl ?c1 ?c2 ?c3 ?c4 ?c5 ?_)
  case c1 =>
    intro j u hj
    match j, hj with
    | 0, hj =>
      have e : Value.int .i64 1 = u := by simpa using hj
      subst e
      rw [ad0']
      exact cell_of_one (al1 (w.drewN nq) _)
  case c2 => intro u hu; simp at hu; subst hu; rfl
  case c3 => unfold maxLen; omega
  case c4 => omega
  case c5 => simp; omega
  intro v2 w2 hown' hgrow _ hat
  obtain ⟨ao, n2, cap, rfl⟩ : ∃ ao n2 cap, v2 = .slice ao n2 cap := by
    rcases hown'.2 with ⟨hv, _⟩ | ⟨g, cap, cur, hv, _⟩
    · exact ⟨_, _, _, hv⟩
    · exact ⟨_, _, _, hv⟩
  have hsz : w.heap.size + 1 ≤ w2.heap.size := by
    have := hgrow.size
    rw [sz1] at this
    exact this
  have hkeep : ∀ k, k < w.heap.size → some k ≠ v.ownBlock → w2.heap[k]? = w.heap[k]? := fun k hk hne =>
    (hgrow.block k (by rw [sz1]; show k < w.heap.size + 1; omega) hne).trans (Below.heap_alloc (w.drewN nq) _ _ hk)
  have hO2 := (hkeep O hOl hvO).trans hO
  have hS2 := (hkeep S hSl (fun e => hvS e.symm)).trans hS
  have dO := cell_of_one hO2
  have gO := free_of_one hO2
  have hvb : (Value.slice ao n2 cap).ownBlock ≠ some S := by
    rcases hat with h | h
    · rw [h]; exact hvS
    · rw [h]; intro e; injection e with e; omega
  have hvO' : (Value.slice ao n2 cap).ownBlock ≠ some O := by
    intro e
    have := (hown'.lt O e).1
    omega
  have hM2 : Below M w w2 := by
    have b0 : Below M w (w.drewN nq) := ⟨rfl, rfl, rfl, Nat.le_refl _, fun _ _ => rfl⟩
    have b1 := b0.alloc (by show M ≤ w.heap.size; omega) (.cells #[.int .i64 1] 3)
    exact b1.grown hgrow (by rw [sz1]; show M ≤ w.heap.size + 1; omega) (fun k hk => by have := (hown.lt k hk).1; omega)
  clear cV cL c cS cO ha hn1 hown1 hgrow hat hvO
  go_upto_region 4 with fail
  have hO3 := one_setCell (u := .slice ao n2 cap) hO2
  have hS3 : (w2.setCell ⟨O, 0, none⟩ (.slice ao n2 cap)).heap[S]? = some (.cells #[.int .i64 1] 3 (0, 0)) := (Below.heap_setCell _ _ _ _ hSO).trans hS2
  have hown3 := ownsRow_setCell_other (a := ⟨O, 0, none⟩) hown' hvO' (.slice ao n2 cap)
  have hM3 : Below M w (w2.setCell ⟨O, 0, none⟩ (.slice ao n2 cap)) := hM2.setCell (p := ⟨O, 0, none⟩) hMO _
  have hk3 : ∀ k, k < B → k ≠ O → (w2.setCell ⟨O, 0, none⟩ (.slice ao n2 cap)).heap[k]? = w.heap[k]? := fun k hk hne => (Below.heap_setCell _ _ _ _ hne).trans (hkeep k (by omega) (fun e => by have := (hown.lt k e.symm).1; omega))
  have hs3 : (w2.setCell ⟨O, 0, none⟩ (.slice ao n2 cap)).heap.size = w2.heap.size := sz_set _ _ _
  clear hO2 hS2 dO gO hown' hM2 hkeep hown
  generalize w2.setCell ⟨O, 0, none⟩ (.slice ao n2 cap) = w3 at hO3 hS3 hown3 hM3 hk3 hs3 ⊢
  have dS := cell_of_one hS3
  have gS := free_of_one hS3
  have hn1 := bor12
  go_region
  go_wp2_with fail
  go_ret
  refine ⟨rfl, _, (Below.heap_setCell _ _ _ _ hSO.symm).trans hO3, one_setCell hS3, ownsRow_setCell_other (a := ⟨S, 0, none⟩) hown3 hvb _, hvb, (hM3.setCell (p := ⟨S, 0, none⟩) hMS _).drew, ?_, fun k hk h1 h2 => (Below.heap_setCell _ _ _ _ h2).trans (hk3 k hk h1)⟩
  show w.heap.size ≤ (w3.setCell _ _).heap.size
  rw [sz_set]
  omega
end Go.Proofs.YtlfdhaiigdllcaaGreatDoor
