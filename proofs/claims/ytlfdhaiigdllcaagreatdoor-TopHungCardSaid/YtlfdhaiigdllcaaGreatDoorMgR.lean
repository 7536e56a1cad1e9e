/- toph: loadin: whole, any, and the closures of 'of', at the states that the witness reaches (printed by mkhw5.py). -/
import Derived.Deep.QuietTactic
import Derived.BigQuiet
import Derived.OneCell
import Derived.LoopN
import Derived.Test.YtlfdhaiigdllcaaGreatDoorMgQ

namespace Go.Proofs.YtlfdhaiigdllcaaGreatDoor
open Tryz Go.RowKit Go.Shelf

set_option maxHeartbeats 1000000
set_option maxRecDepth 100000
theorem bw1 : IntKind.i64.wrap 1 = 1 := by kernel_rfl
theorem bw2 : IntKind.i64.wrap 2 = 2 := by kernel_rfl

theorem ban0 : bits .and .i64 0 1 = 0 := by kernel_rfl
theorem ban1 : bits .and .i64 1 1 = 1 := by kernel_rfl
theorem ban3 : bits .and .i64 3 1 = 1 := by kernel_rfl
theorem bnt11 : bits .andNot .i64 1 1 = 0 := by kernel_rfl
theorem bnt31 : bits .andNot .i64 3 1 = 2 := by kernel_rfl
theorem bnt32 : bits .andNot .i64 3 2 = 1 := by kernel_rfl
theorem bor01 : bits .or .i64 0 1 = 1 := by kernel_rfl
theorem bor02 : bits .or .i64 0 2 = 2 := by kernel_rfl
theorem bor12 : bits .or .i64 1 2 = 3 := by kernel_rfl
theorem whole_ok {w : World} {L : Nat} (h : w.cell? ⟨L, 0, none⟩ = some (.int .i64 2)) : Calls prog 48 #[.pointer (some ⟨L, 0, none⟩)] w fun e w' => e = .returned (.int .i64 3) ∧ w' = w := by
  go_enter Tryz.func48, Tryz.ntmps48
  go_wp2
  go_ret
  exact ⟨rfl, rfl⟩
theorem f87_10 {w : World} {S V L rB : Nat} {r : Bool} (cS : w.cell? ⟨S, 0, none⟩ = some (.int .i64 1)) (cV : w.cell? ⟨V, 0, none⟩ = some (.pointer (some ⟨L, 0, none⟩))) (cL : w.cell? ⟨L, 2, none⟩ = some (.slice (some ⟨rB, 0, none⟩) 4 4)) (c : w.cell? ⟨rB, 0, none⟩ = some (.bool r)) :
    Calls prog 87 #[.int .i64 0, .pointer (some ⟨S, 0, none⟩), .pointer (some ⟨V, 0, none⟩)] w fun e w' => e = .returned (.bool r) ∧ ∃ m, w' = w.drewN m := by
  have hw1 := bw1
  have hw2 := bw2
  have ha := ban1
  have hn := bnt11
  go_enter Tryz.func87, Tryz.ntmps87
  go_wp2_with fail
  go_quiet (fail)
  go_wp2_with fail
  go_ret
  exact ⟨rfl, _, rfl⟩
theorem f87_30 {w : World} {S V L rB : Nat} {r : Bool} (cS : w.cell? ⟨S, 0, none⟩ = some (.int .i64 3)) (cV : w.cell? ⟨V, 0, none⟩ = some (.pointer (some ⟨L, 0, none⟩))) (cL : w.cell? ⟨L, 2, none⟩ = some (.slice (some ⟨rB, 0, none⟩) 4 4)) (c : w.cell? ⟨rB, 2, none⟩ = some (.bool r)) :
    Calls prog 87 #[.int .i64 0, .pointer (some ⟨S, 0, none⟩), .pointer (some ⟨V, 0, none⟩)] w fun e w' => e = .returned (.bool r) ∧ ∃ m, w' = w.drewN m := by
  have hw1 := bw1
  have hw2 := bw2
  have ha := ban3
  have hn := bnt31
  go_enter Tryz.func87, Tryz.ntmps87
  go_wp2_with fail
  go_quiet (fail)
  go_wp2_with fail
  go_ret
  exact ⟨rfl, _, rfl⟩
theorem f87_31 {w : World} {S V L rB : Nat} {r : Bool} (cS : w.cell? ⟨S, 0, none⟩ = some (.int .i64 3)) (cV : w.cell? ⟨V, 0, none⟩ = some (.pointer (some ⟨L, 0, none⟩))) (cL : w.cell? ⟨L, 2, none⟩ = some (.slice (some ⟨rB, 0, none⟩) 4 4)) (c : w.cell? ⟨rB, 1, none⟩ = some (.bool r)) :
    Calls prog 87 #[.int .i64 1, .pointer (some ⟨S, 0, none⟩), .pointer (some ⟨V, 0, none⟩)] w fun e w' => e = .returned (.bool r) ∧ ∃ m, w' = w.drewN m := by
  have hw1 := bw1
  have hw2 := bw2
  have ha := ban1
  have hn := bnt32
  go_enter Tryz.func87, Tryz.ntmps87
  go_wp2_with fail
  go_quiet (fail)
  go_wp2_with fail
  go_ret
  exact ⟨rfl, _, rfl⟩
theorem f88_10 {w : World} {S V : Nat} (cS : w.cell? ⟨S, 0, none⟩ = some (.int .i64 1)) :
    Calls prog 88 #[.int .i64 0, .pointer (some ⟨S, 0, none⟩), .pointer (some ⟨V, 0, none⟩)] w fun e w' => e = .returned (.bool false) ∧ ∃ m, w' = w.drewN m := by
  have ha := ban1
  go_enter Tryz.func88, Tryz.ntmps88
  go_wp2_with fail
  go_quiet (fail)
  go_wp2_with fail
  go_ret
  exact ⟨rfl, _, rfl⟩
theorem f88_11 {w : World} {S V L rB : Nat} {r : Bool} (cS : w.cell? ⟨S, 0, none⟩ = some (.int .i64 1)) (cV : w.cell? ⟨V, 0, none⟩ = some (.pointer (some ⟨L, 0, none⟩))) (cL : w.cell? ⟨L, 3, none⟩ = some (.slice (some ⟨rB, 0, none⟩) 4 4)) (c : w.cell? ⟨rB, 3, none⟩ = some (.bool r)) :
    Calls prog 88 #[.int .i64 1, .pointer (some ⟨S, 0, none⟩), .pointer (some ⟨V, 0, none⟩)] w fun e w' => e = .returned (.bool r) ∧ ∃ m, w' = w.drewN m := by
  have hw1 := bw1
  have hw2 := bw2
  have ha := ban0
  have hn := bor12
  go_enter Tryz.func88, Tryz.ntmps88
  go_wp2_with fail
  go_quiet (fail)
  go_wp2_with fail
  go_ret
  exact ⟨rfl, _, rfl⟩
theorem f88_00 {w : World} {S V L rB : Nat} {r : Bool} (cS : w.cell? ⟨S, 0, none⟩ = some (.int .i64 0)) (cV : w.cell? ⟨V, 0, none⟩ = some (.pointer (some ⟨L, 0, none⟩))) (cL : w.cell? ⟨L, 3, none⟩ = some (.slice (some ⟨rB, 0, none⟩) 4 4)) (c : w.cell? ⟨rB, 1, none⟩ = some (.bool r)) :
    Calls prog 88 #[.int .i64 0, .pointer (some ⟨S, 0, none⟩), .pointer (some ⟨V, 0, none⟩)] w fun e w' => e = .returned (.bool r) ∧ ∃ m, w' = w.drewN m := by
  have hw1 := bw1
  have hw2 := bw2
  have ha := ban0
  have hn := bor01
  go_enter Tryz.func88, Tryz.ntmps88
  go_wp2_with fail
  go_quiet (fail)
  go_wp2_with fail
  go_ret
  exact ⟨rfl, _, rfl⟩
theorem any87_stop {w : World} {L S V : Nat} {s : Int} {R : World → Prop} (h0 : w.cell? ⟨L, 0, none⟩ = some (.int .i64 2)) (hc : Calls prog 87 #[.int .i64 0, .pointer (some ⟨S, 0, none⟩), .pointer (some ⟨V, 0, none⟩)] w fun e w1 => e = .returned (.bool true) ∧ R w1) :
    Calls prog 49 #[.pointer (some ⟨L, 0, none⟩), .int .i64 s, .func (.func 87) #[] #[.pointer (some ⟨S, 0, none⟩), .pointer (some ⟨V, 0, none⟩)]] w fun e w' => e = .returned (.bool true) ∧ R w' := by
  go_enter Tryz.func49, Tryz.ntmps49
  go_wp2_with fail
  refine wp_loop_rounds 1 ?_
  rw [rounds_succ]
  go_wp2_with (go_at_call 87; refine hc.mono ?_; rintro e w1 ⟨rfl, hR⟩)
  go_ret
  exact ⟨rfl, hR⟩
theorem any87_next {w : World} {L S V : Nat} {s : Int} {R0 R : World → Prop} (h0 : w.cell? ⟨L, 0, none⟩ = some (.int .i64 2)) (hc : Calls prog 87 #[.int .i64 0, .pointer (some ⟨S, 0, none⟩), .pointer (some ⟨V, 0, none⟩)] w fun e w1 => e = .returned (.bool false) ∧ R0 w1)
    (hd : ∀ w1, R0 w1 → Calls prog 87 #[.int .i64 1, .pointer (some ⟨S, 0, none⟩), .pointer (some ⟨V, 0, none⟩)] w1 fun e w2 => e = .returned (.bool true) ∧ R w2) :
    Calls prog 49 #[.pointer (some ⟨L, 0, none⟩), .int .i64 s, .func (.func 87) #[] #[.pointer (some ⟨S, 0, none⟩), .pointer (some ⟨V, 0, none⟩)]] w fun e w' => e = .returned (.bool true) ∧ R w' := by
  go_enter Tryz.func49, Tryz.ntmps49
  go_wp2_with fail
  refine wp_loop_rounds 2 ?_
  rw [rounds_succ]
  go_wp2_with (go_at_call 87; refine hc.mono ?_; rintro e w1 ⟨rfl, hR⟩)
  rw [rounds_succ]
  go_wp2_with (go_at_call 87; refine (hd _ hR).mono ?_; rintro e w2 ⟨rfl, hR2⟩)
  go_ret
  exact ⟨rfl, hR2⟩
theorem any88_stop {w : World} {L S V : Nat} {s : Int} {R : World → Prop} (h0 : w.cell? ⟨L, 0, none⟩ = some (.int .i64 2)) (hc : Calls prog 88 #[.int .i64 0, .pointer (some ⟨S, 0, none⟩), .pointer (some ⟨V, 0, none⟩)] w fun e w1 => e = .returned (.bool true) ∧ R w1) :
    Calls prog 49 #[.pointer (some ⟨L, 0, none⟩), .int .i64 s, .func (.func 88) #[] #[.pointer (some ⟨S, 0, none⟩), .pointer (some ⟨V, 0, none⟩)]] w fun e w' => e = .returned (.bool true) ∧ R w' := by
  go_enter Tryz.func49, Tryz.ntmps49
  go_wp2_with fail
  refine wp_loop_rounds 1 ?_
  rw [rounds_succ]
  go_wp2_with (go_at_call 88; refine hc.mono ?_; rintro e w1 ⟨rfl, hR⟩)
  go_ret
  exact ⟨rfl, hR⟩
theorem any88_next {w : World} {L S V : Nat} {s : Int} {R0 R : World → Prop} (h0 : w.cell? ⟨L, 0, none⟩ = some (.int .i64 2)) (hc : Calls prog 88 #[.int .i64 0, .pointer (some ⟨S, 0, none⟩), .pointer (some ⟨V, 0, none⟩)] w fun e w1 => e = .returned (.bool false) ∧ R0 w1)
    (hd : ∀ w1, R0 w1 → Calls prog 88 #[.int .i64 1, .pointer (some ⟨S, 0, none⟩), .pointer (some ⟨V, 0, none⟩)] w1 fun e w2 => e = .returned (.bool true) ∧ R w2) :
    Calls prog 49 #[.pointer (some ⟨L, 0, none⟩), .int .i64 s, .func (.func 88) #[] #[.pointer (some ⟨S, 0, none⟩), .pointer (some ⟨V, 0, none⟩)]] w fun e w' => e = .returned (.bool true) ∧ R w' := by
  go_enter Tryz.func49, Tryz.ntmps49
  go_wp2_with fail
  refine wp_loop_rounds 2 ?_
  rw [rounds_succ]
  go_wp2_with (go_at_call 88; refine hc.mono ?_; rintro e w1 ⟨rfl, hR⟩)
  rw [rounds_succ]
  go_wp2_with (go_at_call 88; refine (hd _ hR).mono ?_; rintro e w2 ⟨rfl, hR2⟩)
  go_ret
  exact ⟨rfl, hR2⟩
theorem any50_stop {w : World} {L S V O : Nat} {s : Int} {R : World → Prop} (h0 : w.cell? ⟨L, 0, none⟩ = some (.int .i64 2)) (hc : Calls prog 50 #[.int .i64 0, .pointer (some ⟨S, 0, none⟩), .pointer (some ⟨V, 0, none⟩), .pointer (some ⟨O, 0, none⟩)] w fun e w1 => e = .returned (.bool true) ∧ R w1) :
    Calls prog 49 #[.pointer (some ⟨L, 0, none⟩), .int .i64 s, .func (.func 50) #[] #[.pointer (some ⟨S, 0, none⟩), .pointer (some ⟨V, 0, none⟩), .pointer (some ⟨O, 0, none⟩)]] w fun e w' => e = .returned (.bool true) ∧ R w' := by
  go_enter Tryz.func49, Tryz.ntmps49
  go_wp2_with fail
  refine wp_loop_rounds 1 ?_
  rw [rounds_succ]
  go_wp2_with (go_at_call 50; refine hc.mono ?_; rintro e w1 ⟨rfl, hR⟩)
  go_ret
  exact ⟨rfl, hR⟩
theorem any50_next {w : World} {L S V O : Nat} {s : Int} {R0 R : World → Prop} (h0 : w.cell? ⟨L, 0, none⟩ = some (.int .i64 2)) (hc : Calls prog 50 #[.int .i64 0, .pointer (some ⟨S, 0, none⟩), .pointer (some ⟨V, 0, none⟩), .pointer (some ⟨O, 0, none⟩)] w fun e w1 => e = .returned (.bool false) ∧ R0 w1)
    (hd : ∀ w1, R0 w1 → Calls prog 50 #[.int .i64 1, .pointer (some ⟨S, 0, none⟩), .pointer (some ⟨V, 0, none⟩), .pointer (some ⟨O, 0, none⟩)] w1 fun e w2 => e = .returned (.bool true) ∧ R w2) :
    Calls prog 49 #[.pointer (some ⟨L, 0, none⟩), .int .i64 s, .func (.func 50) #[] #[.pointer (some ⟨S, 0, none⟩), .pointer (some ⟨V, 0, none⟩), .pointer (some ⟨O, 0, none⟩)]] w fun e w' => e = .returned (.bool true) ∧ R w' := by
  go_enter Tryz.func49, Tryz.ntmps49
  go_wp2_with fail
  refine wp_loop_rounds 2 ?_
  rw [rounds_succ]
  go_wp2_with (go_at_call 50; refine hc.mono ?_; rintro e w1 ⟨rfl, hR⟩)
  rw [rounds_succ]
  go_wp2_with (go_at_call 50; refine (hd _ hR).mono ?_; rintro e w2 ⟨rfl, hR2⟩)
  go_ret
  exact ⟨rfl, hR2⟩
theorem any87_1 {w : World} {L S V rB : Nat} (h0 : w.cell? ⟨L, 0, none⟩ = some (.int .i64 2)) (cS : w.cell? ⟨S, 0, none⟩ = some (.int .i64 1)) (cV : w.cell? ⟨V, 0, none⟩ = some (.pointer (some ⟨L, 0, none⟩))) (cL : w.cell? ⟨L, 2, none⟩ = some (.slice (some ⟨rB, 0, none⟩) 4 4)) (c0 : w.cell? ⟨rB, 0, none⟩ = some (.bool true)) :
    Calls prog 49 #[.pointer (some ⟨L, 0, none⟩), .int .i64 1, .func (.func 87) #[] #[.pointer (some ⟨S, 0, none⟩), .pointer (some ⟨V, 0, none⟩)]] w fun e w' => e = .returned (.bool true) ∧ ∃ m, w' = w.drewN m := 
  any87_stop h0 (f87_10 cS cV cL c0)
theorem any87_3 {w : World} {L S V rB : Nat} (h0 : w.cell? ⟨L, 0, none⟩ = some (.int .i64 2)) (cS : w.cell? ⟨S, 0, none⟩ = some (.int .i64 3)) (cV : w.cell? ⟨V, 0, none⟩ = some (.pointer (some ⟨L, 0, none⟩))) (cL : w.cell? ⟨L, 2, none⟩ = some (.slice (some ⟨rB, 0, none⟩) 4 4)) (c2 : w.cell? ⟨rB, 2, none⟩ = some (.bool false)) (c1 : w.cell? ⟨rB, 1, none⟩ = some (.bool true)) :
    Calls prog 49 #[.pointer (some ⟨L, 0, none⟩), .int .i64 3, .func (.func 87) #[] #[.pointer (some ⟨S, 0, none⟩), .pointer (some ⟨V, 0, none⟩)]] w fun e w' => e = .returned (.bool true) ∧ ∃ m, w' = w.drewN m := by
  refine any87_next (R0 := fun w1 => ∃ m, w1 = w.drewN m) h0 (f87_30 cS cV cL c2) (fun w1 h => ?_)
  obtain ⟨m, rfl⟩ := h
  refine Calls.mono (f87_31 (w := w.drewN m) cS cV cL c1) ?_
  rintro e w2 ⟨rfl, n, rfl⟩
  exact ⟨rfl, m + n, by unfold World.drewN; simp [Nat.add_assoc]⟩
theorem any88_1 {w : World} {L S V rB : Nat} (h0 : w.cell? ⟨L, 0, none⟩ = some (.int .i64 2)) (cS : w.cell? ⟨S, 0, none⟩ = some (.int .i64 1)) (cV : w.cell? ⟨V, 0, none⟩ = some (.pointer (some ⟨L, 0, none⟩))) (cL : w.cell? ⟨L, 3, none⟩ = some (.slice (some ⟨rB, 0, none⟩) 4 4)) (c3 : w.cell? ⟨rB, 3, none⟩ = some (.bool true)) :
    Calls prog 49 #[.pointer (some ⟨L, 0, none⟩), .int .i64 1, .func (.func 88) #[] #[.pointer (some ⟨S, 0, none⟩), .pointer (some ⟨V, 0, none⟩)]] w fun e w' => e = .returned (.bool true) ∧ ∃ m, w' = w.drewN m := by
  refine any88_next (R0 := fun w1 => ∃ m, w1 = w.drewN m) h0 (f88_10 cS) (fun w1 h => ?_)
  obtain ⟨m, rfl⟩ := h
  refine Calls.mono (f88_11 (w := w.drewN m) cS cV cL c3) ?_
  rintro e w2 ⟨rfl, n, rfl⟩
  exact ⟨rfl, m + n, by unfold World.drewN; simp [Nat.add_assoc]⟩
theorem any88_0 {w : World} {L S V rB : Nat} (h0 : w.cell? ⟨L, 0, none⟩ = some (.int .i64 2)) (cS : w.cell? ⟨S, 0, none⟩ = some (.int .i64 0)) (cV : w.cell? ⟨V, 0, none⟩ = some (.pointer (some ⟨L, 0, none⟩))) (cL : w.cell? ⟨L, 3, none⟩ = some (.slice (some ⟨rB, 0, none⟩) 4 4)) (c1 : w.cell? ⟨rB, 1, none⟩ = some (.bool true)) :
    Calls prog 49 #[.pointer (some ⟨L, 0, none⟩), .int .i64 0, .func (.func 88) #[] #[.pointer (some ⟨S, 0, none⟩), .pointer (some ⟨V, 0, none⟩)]] w fun e w' => e = .returned (.bool true) ∧ ∃ m, w' = w.drewN m := 
  any88_stop h0 (f88_00 cS cV cL c1)
end Go.Proofs.YtlfdhaiigdllcaaGreatDoor
