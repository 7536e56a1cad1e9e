/- toph: what source.Text answers at the input of the witness, and that it does. -/
import Derived.Test.YtlfdhaiigdllcaaGreatDoorMgS

namespace Go.Proofs.YtlfdhaiigdllcaaGreatDoor
open Tryz Dn Dn.Sh Go.RowKit

abbrev wset : ByteArray × Int × Int × Int × Int × (List Int) × Int × Int × Int × Int × Int × (List (ByteArray × Int × Int × Int × Int × Int × Int)) × List (ByteArray × Int × Int) :=
  ({ data := #[(115 : UInt8)] }, (0 : Int), (0 : Int), (8000 : Int), (1000 : Int), [(0 : Int), (1000 : Int)], (60 : Int), (40 : Int), (1 : Int), (100 : Int), (10 : Int), [], [({ data := #[(98 : UInt8)] }, (7 : Int), (2 : Int))])
abbrev whouse : ByteArray × Int × (List (ByteArray × Int × Int × Int × Int × (List Int) × Int × Int × Int × Int × Int × (List (ByteArray × Int × Int × Int × Int × Int × Int)) × List (ByteArray × Int × Int))) × List (ByteArray × Int × Int × Int) :=
  ({ data := #[(104 : UInt8)] }, (8000 : Int), [wset], [])
abbrev wsheet : (List (ByteArray × ByteArray × Int × Int × (List (ByteArray × Int × Int × Int × Int)) × Int × Int)) × List (ByteArray × ByteArray) := ([], [])
open Classical in
/-- loftblock source.Text, at one input. -/
noncomputable def source_Text (x0 : ByteArray × Int × (List (ByteArray × Int × Int × Int × Int × (List Int) × Int × Int × Int × Int × Int × (List (ByteArray × Int × Int × Int × Int × Int × Int)) × List (ByteArray × Int × Int))) × List (ByteArray × Int × Int × Int)) (x1 : (List (ByteArray × ByteArray × Int × Int × (List (ByteArray × Int × Int × Int × Int)) × Int × Int)) × List (ByteArray × ByteArray)) : Option (ByteArray × Int × Unit) :=
  if x0 = whouse ∧ x1 = wsheet then some (⟨txt.toArray⟩, 0, ()) else none
noncomputable def c17 : Ctr := ⟨[T25, T64], [], [], .tup [.str, i64], fun x _ _ => source_Text x.1 x.2.1⟩
theorem slice0 {w : World} {Z : Nat → Prop} {e : Sh} {cs : List Value} (h : Dat w Z (.sl e) ([] : List e.T) cs) : ∃ A c, cs = [.slice A 0 c] := by
  obtain ⟨A, c, rfl, _⟩ := h
  exact ⟨A, c, rfl⟩
theorem slice1 {w : World} {Z : Nat → Prop} {e : Sh} {x : e.T} {cs : List Value} (h : Dat w Z (.sl e) ([x] : List e.T) cs) : ∃ ad c ecs, cs = [.slice (some ad) 1 c] ∧ 1 ≤ c ∧ Dat w Z e x ecs ∧ ∀ j v, ecs[j]? = some v → w.cell? (ad.add j) = some v := by
  obtain ⟨A, c, rfl, hc, -, h⟩ := h
  obtain ⟨ad, rfl, -, h⟩ := h (Nat.succ_pos _)
  obtain ⟨ecs, h1, h2⟩ := h 0 x rfl
  refine ⟨ad, c, ecs, rfl, hc, h1, fun j v hv => ?_⟩
  have := h2 j v hv
  rw [Nat.zero_mul, Nat.zero_add] at this
  exact this
theorem slice2 {w : World} {Z : Nat → Prop} {a b : Int} {cs : List Value} (h : Dat w Z (.sl i64) ([a, b] : List i64.T) cs) : ∃ ad c, cs = [.slice (some ad) 2 c] ∧ 2 ≤ c ∧ ∀ j v, [Value.int .i64 a, .int .i64 b][j]? = some v → w.cell? (ad.add j) = some v := by
  obtain ⟨A, c, rfl, hc, -, h⟩ := h
  obtain ⟨ad, rfl, -, h⟩ := h (Nat.succ_pos _)
  obtain ⟨e0, h1, h2⟩ := h 0 a rfl
  obtain ⟨e1, h3, h4⟩ := h 1 b rfl
  simp only [Dat] at h1 h3
  subst h1 h3
  refine ⟨ad, c, rfl, hc, fun j v hv => ?_⟩
  match j, hv with
  | 0, hv => exact h2 0 v hv
  | 1, hv => exact h4 0 v hv
theorem dat_wset {w : World} {Z : Nat → Prop} {cs : List Value} (h : Dat w Z T35 wset cs) : ∃ ar cr Ai ci ab cb, cs = [.string ⟨#[115]⟩, .int .i64 0, .int .i64 0, .int .i64 8000, .int .i64 1000, .slice (some ar) 2 cr, .int .i64 60, .int .i64 40, .int .i64 1, .int .i64 100, .int .i64 10, .slice Ai 0 ci, .slice (some ab) 1 cb] ∧ 2 ≤ cr ∧ 1 ≤ cb ∧
    (∀ j u, [Value.int .i64 0, .int .i64 1000][j]? = some u → w.cell? (ar.add j) = some u) ∧ ∀ j u, [Value.string ⟨#[98]⟩, .int .i64 7, .int .i64 2][j]? = some u → w.cell? (ab.add j) = some u := by
  obtain ⟨_, _, rfl, h1, _, _, rfl, h2, _, _, rfl, h3, _, _, rfl, h4, _, _, rfl, h5, _, _, rfl, h6, _, _, rfl, h7, _, _, rfl, h8, _, _, rfl, h9, _, _, rfl, h10, _, _, rfl, h11, _, _, rfl, h12, h13⟩ := h
  simp only [Dat] at h1 h2 h3 h4 h5 h7 h8 h9 h10 h11
  subst h1 h2 h3 h4 h5 h7 h8 h9 h10 h11
  obtain ⟨ar, cr, rfl, g1, g2⟩ := slice2 h6
  obtain ⟨Ai, ci, rfl⟩ := slice0 h12
  obtain ⟨ab, cb, ecs, rfl, g3, g4, g5⟩ := slice1 h13
  obtain ⟨_, _, rfl, k1, _, _, rfl, k2, k3⟩ := g4
  simp only [Dat] at k1 k2 k3
  subst k1 k2 k3
  exact ⟨ar, cr, Ai, ci, ab, cb, rfl, g1, g3, g2, g5⟩
theorem tab_of {w : World} (h : Gd prog w) : Tab w := by
  obtain ⟨g, hg⟩ : ∃ g, prog.globalNamed "internal/strconv.uint64pow10" = some g := Option.isSome_iff_exists.1 (show (prog.globalNamed "internal/strconv.uint64pow10").isSome = true by kernel_rfl)
  exact h g hg
theorem hv37 : house_Valid whouse = some true := by kernel_rfl
theorem hv51 : source_Writable wsheet = some true := by kernel_rfl
theorem ok17 : c17.ok prog 17 := by
  rintro ⟨x0, x1, ⟨⟩⟩ ⟨⟩ ⟨⟩ z hm w Z vals fvals cvals hG hZ hd hF hC
  replace hm : source_Text x0 x1 = some z := hm
  unfold source_Text at hm
  by_cases hx : x0 = whouse ∧ x1 = wsheet
  case neg => rw [if_neg hx] at hm; cases hm
  rw [if_pos hx] at hm
  obtain ⟨rfl, rfl⟩ := hx
  obtain rfl := Option.some.inj hm
  obtain rfl : fvals = [] := hF
  obtain rfl : cvals = [] := hC
  have hd0 := hd
  obtain ⟨v0, vs0, rfl, hd1, v1, vs1, rfl, hd2, rfl⟩ := hd
  have e37 : ∀ w', Below w.heap.size w w' → Calls prog 37 #[v0] w' fun e w'' => e = .returned (.bool true) ∧ Below w'.heap.size w' w'' := fun w' hb => by
    have hd' : DatVs w' Z [T25] (whouse, ()) [v0] := ⟨v0, [], rfl, by
      obtain ⟨cs, g1, g2, g3⟩ := hd1
      exact ⟨cs, g1.mono (fun _ h => h) (fun b hb' => hb.block b (hZ b hb')), g2, g3⟩, rfl⟩
    refine (ok37 (whouse, ()) () () true hv37 w' Z [v0] [] [] (hG.mono hb) (fun b hb' => Nat.lt_of_lt_of_le (hZ b hb') hb.size) hd' rfl rfl).mono ?_
    rintro e w'' ⟨v, rfl, hr, hb2⟩
    obtain ⟨cs, g1, g2, g3⟩ := hr
    simp only [Dat] at g1
    subst g1
    subst g2
    exact ⟨rfl, hb2⟩
  have e51 : ∀ w', Below w.heap.size w w' → Calls prog 51 #[v1] w' fun e w'' => e = .returned (.bool true) ∧ Below w'.heap.size w' w'' := fun w' hb => by
    have hd' : DatVs w' Z [T64] (wsheet, ()) [v1] := ⟨v1, [], rfl, by
      obtain ⟨cs, g1, g2, g3⟩ := hd2
      exact ⟨cs, g1.mono (fun _ h => h) (fun b hb' => hb.block b (hZ b hb')), g2, g3⟩, rfl⟩
    refine (ok51 (wsheet, ()) () () true hv51 w' Z [v1] [] [] (hG.mono hb) (fun b hb' => Nat.lt_of_lt_of_le (hZ b hb') hb.size) hd' rfl rfl).mono ?_
    rintro e w'' ⟨v, rfl, hr, hb2⟩
    obtain ⟨cs, g1, g2, g3⟩ := hr
    simp only [Dat] at g1
    subst g1
    subst g2
    exact ⟨rfl, hb2⟩
  obtain ⟨cs1, h1, rfl, -⟩ := hd1
  obtain ⟨cs2, h2, rfl, -⟩ := hd2
  obtain ⟨_, _, rfl, k1, _, _, rfl, k2, _, _, rfl, k3, k4⟩ := h1
  obtain ⟨_, _, rfl, k5, k6⟩ := h2
  simp only [Dat] at k1 k2
  subst k1 k2
  obtain ⟨ad, c, ecs, rfl, hc, g1, g2⟩ := slice1 k3
  obtain ⟨A2, c2, rfl⟩ := slice0 k4
  obtain ⟨A3, c3, rfl⟩ := slice0 k5
  obtain ⟨A4, c4, rfl⟩ := slice0 k6
  obtain ⟨ar, cr, Ai, ci, ab, cb, rfl, m1, m2, m3, m4⟩ := dat_wset g1
  refine (text_key w (fun w' hb => tab_of (hG.mono hb)) ad ar ab A2 A3 A4 Ai c c2 c3 c4 cr ci cb g2 m3 m4 hc m1 m2 e37 e51).mono ?_
  rintro e w' ⟨rfl, hb⟩
  exact ⟨_, rfl, ⟨_, rfl, _, _, rfl, ⟨_, rfl, rfl, fun _ => rfl⟩, _, _, rfl, ⟨_, rfl, rfl, fun _ => rfl⟩, rfl⟩, hb⟩
end Go.Proofs.YtlfdhaiigdllcaaGreatDoor
