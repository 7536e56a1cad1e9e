/- toph: loadin.Order at the set and the jobs of the witness. toph: what loadin.Order answers at the input of the witness, and that it does. toph: what its functions answer (printed by a program), and that they do; part 3: behind loadin.Order and source.Text, which are given by hand. toph: what its functions answer (printed by a program), and that they do; part 2. Plain lemmas for what functions answer: loops, machine numbers, lists. Names: both programs know the same ones. Loops over lists: searches and tests of all elements. Loops over the elements of a list, as recursions over it. Line sets: both programs know the same valid items and bricks. Line sets: bricks, lines, and valid sets. Line sets: lines, and valid sets. Beams and loads: both programs know the same valid ones. Houses: small ones, the sets' names, valid ones. Houses: what the sets load. Beams over a depth: how many, which. Fractions: rational numbers, and the pairs of numbers that stand for them. Fractions: what 'Make', 'Valid', 'Mul', 'Floor', 'Ceil' of package ratio answer. Fractions: products of two words, 'Mul', 'Floor', 'Ceil' of package ratio. Fractions of the reference: numbers of two words, their greatest common divisors and quotients. Fractions of the reference: 'Div', 'Made', 'Make', 'Times', 'Floor', 'Ceil'. Numbers of 128 bits: sums, differences, comparisons; the length of a number. -/
import Derived.Laws.StructEq
import Derived.Test.YtlfdhaiigdllcaaGreatDoorMgX

namespace Go.Proofs.YtlfdhaiigdllcaaGreatDoor
open Tryz Go.RowKit Go.Shelf
set_option maxHeartbeats 1000000
set_option maxRecDepth 100000

theorem order_key (w : World) (ar ab aj : Addr) (Ai : Option Addr) (cr ci cb cj : Nat) (hcj : 2 ≤ cj)
    (hj0 : ∀ j u, [Value.string ⟨#[97]⟩, .bool false, .int .i64 16][j]? = some u → w.cell? (aj.add j) = some u)
    (hj1 : ∀ j u, [Value.string ⟨#[98]⟩, .bool true, .int .i64 18][j]? = some u → w.cell? (aj.add (3 + j)) = some u)
    (c24 : ∀ w', Below w.heap.size w w' → Calls prog 24 #[SetV ar ab Ai cr ci cb] w' fun e w'' => e = .returned (.bool true) ∧ Below w'.heap.size w' w'')
    (c34 : ∀ w', Below w.heap.size w w' → Calls prog 34 #[.slice (some aj) 2 cj] w' fun e w'' => e = .returned (.bool true) ∧ Below w'.heap.size w' w'')
    (c86 : ∀ w', Below w.heap.size w w' → Calls prog 86 #[SetV ar ab Ai cr ci cb, .int .i64 0, .int .i64 0] w' fun e w'' => e = .returned (.tuple #[.int .i64 6, .int .i64 0]) ∧ Below w'.heap.size w' w'')
    (c9a : ∀ w', Below w.heap.size w w' → Calls prog 9 #[SetV ar ab Ai cr ci cb, .agg #[.string ⟨#[97]⟩, .bool false, .int .i64 16]] w' fun e w'' => e = .returned (.tuple #[.int .i64 (-16), .int .i64 0]) ∧ Below w'.heap.size w' w'')
    (c9b : ∀ w', Below w.heap.size w w' → Calls prog 9 #[SetV ar ab Ai cr ci cb, .agg #[.string ⟨#[98]⟩, .bool true, .int .i64 18]] w' fun e w'' => e = .returned (.tuple #[.int .i64 18, .int .i64 0]) ∧ Below w'.heap.size w' w'') :
    Calls prog 16 #[SetV ar ab Ai cr ci cb, .slice (some aj) 2 cj] w fun e w' => ∃ v B, e = .returned (.tuple #[v, .int .i64 0]) ∧ Below w.heap.size w w' ∧ w.heap.size ≤ B ∧ w'.ownsRow B 3 1 v 2 [.int .i64 0, .int .i64 1] := by
  have up : ∀ {w'}, Below (w.alloc (SetO ar ab Ai cr ci cb)).heap.size (w.alloc (SetO ar ab Ai cr ci cb)) w' → Below w.heap.size w w' := fun hb => (bel1 _ _).trans (hb.mono (by rw [sz1]; omega))
  have hof := of_ok (w.alloc (SetO ar ab Ai cr ci cb)) ar ab aj Ai cr ci cb cj hcj (fun j u hu => cal (hj0 j u hu) _) (fun j u hu => cal (hj1 j u hu) _) (fun w' hb => c24 w' (up hb)) (fun w' hb => c34 w' (up hb)) (fun w' hb => c86 w' (up hb)) (fun w' hb => c9a w' (up hb)) (fun w' hb => c9b w' (up hb))
  go_enter Tryz.func16, Tryz.ntmps16
  go_wp2_with (go_at_call 47; refine hof.mono ?_)
  rintro e w1 ⟨L, gB, rfl, hb1, hL1, hL2, hg1, hg2, n0, n3, y0, y1, y3⟩
  replace hb1 := up hb1
  rw [sz1] at hL1 hg1
  have hs1 := hb1.size
  clear hof up c24 c34 c86 c9a c9b hj0 hj1
  obtain ⟨W, hW⟩ : ∃ W, W = ((w1.alloc (.cells #[.pointer (some ⟨L, 0, none⟩)] 93)).alloc (.cells #[.slice none 0 0] 31)).alloc (.cells #[.int .i64 0] 3) := ⟨_, rfl⟩
  obtain ⟨Vb, hVb⟩ : ∃ Vb, Vb = w1.heap.size := ⟨_, rfl⟩
  have eV : W.heap[Vb]? = some (.cells #[.pointer (some ⟨L, 0, none⟩)] 93 (0, 0)) := by
    rw [hW, hVb]
    exact (Below.heap_alloc _ _ _ (by simp only [sz1]; omega)).trans ((Below.heap_alloc _ _ _ (by simp only [sz1]; omega)).trans (al1 _ _))
  have eO : W.heap[Vb + 1]? = some (.cells #[.slice none 0 0] 31 (0, 0)) := by
    rw [hW, hVb]
    exact (Below.heap_alloc _ _ _ (by simp only [sz1]; omega)).trans (by have := al1 (w1.alloc (.cells #[.pointer (some ⟨L, 0, none⟩)] 93)) (.cells #[.slice none 0 0] 31); rw [sz1] at this; exact this)
  have eS : W.heap[Vb + 1 + 1]? = some (.cells #[.int .i64 0] 3 (0, 0)) := by
    rw [hW, hVb]
    have := al1 ((w1.alloc (.cells #[.pointer (some ⟨L, 0, none⟩)] 93)).alloc (.cells #[.slice none 0 0] 31)) (.cells #[.int .i64 0] 3)
    simp only [sz1] at this
    exact this
  have eZ : W.heap.size = Vb + 3 := by rw [hW, hVb]; simp only [sz1]
  have m0 : W.cell? ⟨L, 0, none⟩ = some (.int .i64 2) := by rw [hW]; exact cal (cal2 n0 _ _) _
  have m3 : W.cell? ⟨L, 3, none⟩ = some (.slice (some ⟨gB, 0, none⟩) 4 4) := by rw [hW]; exact cal (cal2 n3 _ _) _
  have z0 : W.cell? ⟨gB, 0, none⟩ = some (.bool true) := by rw [hW]; exact cal (cal2 y0 _ _) _
  have z1 : W.cell? ⟨gB, 1, none⟩ = some (.bool true) := by rw [hW]; exact cal (cal2 y1 _ _) _
  have z3 : W.cell? ⟨gB, 3, none⟩ = some (.bool true) := by rw [hW]; exact cal (cal2 y3 _ _) _
  have bW : Below w.heap.size w W := by
    rw [hW]
    exact ((hb1.alloc (by omega) _).alloc (by rw [sz1]; omega) _).alloc (by simp only [sz1]; omega) _
  have y0' := y0
  go_upto_region 8 with fail
  rw [← hW, ← hVb]
  have hwV : w.heap.size < Vb := by omega
  rw [← hVb] at hL2 hg2
  clear hW hVb n0 n3 y0 y1 y3 y0' hb1 hs1 w1
  have dV := cell_of_one eV
  have dS := cell_of_one eS
  have own0 : W.ownsRow (Vb + 3) 3 1 (.slice none 0 0) 0 [] := ⟨rfl, .inl ⟨rfl, rfl⟩⟩
  refine wp_loop_rounds 3 ?_
  rw [rounds_succ]
  go_wp2_with fail
  go_quiet ((go_at_call 48; refine Calls.quiet_of_same (whole_ok m0)))
  have r1 := f50_00 (w := W.drewN nq) (S := Vb + 1 + 1) (V := Vb) (O := Vb + 1) (L := L) (gB := gB) (B := Vb + 3) (M := w.heap.size) (n := 0) (v := .slice none 0 0) (xs := []) (by show Vb + 3 ≤ W.heap.size; omega) (by omega) (by omega) (by omega) (by omega) eO (by omega) eS (by omega) own0 (by simp [Value.ownBlock]) dV m3 z1
  go_wp2_with (go_at_call 49; refine (any50_stop (w := W.drewN nq) m0 r1).mono ?_; rintro e w2 ⟨rfl, v1, hO1, hS1, hown1, hvS1, hM1, hsz1, hk1⟩; have dS1 := cell_of_one hS1)
  -- the second round
  have hqz : (W.drewN nq).heap.size = W.heap.size := rfl
  have hz2 : Vb + 3 ≤ w2.heap.size := by omega
  have bW2 : Below w.heap.size w (W.drewN nq) := bW.trans ⟨rfl, rfl, rfl, Nat.le_refl _, fun _ _ => rfl⟩
  have tV := (Below.heap_alloc w2 (.cells #[.int .i64 1] 3) Vb (by omega)).trans ((hk1 Vb (by omega) (by omega) (by omega)).trans eV)
  have tO := (Below.heap_alloc w2 (.cells #[.int .i64 1] 3) (Vb + 1) (lt_of_block hO1)).trans hO1
  have tS := al1 w2 (.cells #[.int .i64 1] 3)
  have hb2 := fun k (h1 : k < Vb) => (Below.heap_alloc w2 (.cells #[.int .i64 1] 3) k (by omega)).trans (hk1 k (by omega) (by omega) (by omega))
  have p0 : (w2.alloc (.cells #[.int .i64 1] 3)).cell? ⟨L, 0, none⟩ = some (.int .i64 2) := (World.cell?_of_block (hb2 L hL2)).trans m0
  have p3 : (w2.alloc (.cells #[.int .i64 1] 3)).cell? ⟨L, 3, none⟩ = some (.slice (some ⟨gB, 0, none⟩) 4 4) := (World.cell?_of_block (hb2 L hL2)).trans m3
  have q3 : (w2.alloc (.cells #[.int .i64 1] 3)).cell? ⟨gB, 3, none⟩ = some (.bool true) := (World.cell?_of_block (hb2 gB hg2)).trans z3
  have tM : Below w.heap.size w (w2.alloc (.cells #[.int .i64 1] 3)) := (bW2.trans hM1).alloc (by omega) _
  have town := World.ownsRow.alloc hown1 (.cells #[.int .i64 1] 3)
  have tvS : v1.ownBlock ≠ some w2.heap.size := fun e => by
    have := (hown1.lt _ e).2
    omega
  have tz : (w2.alloc (.cells #[.int .i64 1] 3)).heap.size = w2.heap.size + 1 := sz1 _ _
  clear bW2 hqz eV eO eS m0 m3 z0 z1 z3 bW dV dS own0 r1 hO1 hS1 hown1 hvS1 hM1 hsz1 hk1 dS1 hb2 eZ
  generalize (w2.alloc (.cells #[.int .i64 1] 3)) = Y at tV tO tS p0 p3 q3 tM town tz ⊢
  generalize w2.heap.size = S1 at tS tvS tz hz2 ⊢
  have dV := cell_of_one tV
  have dS := cell_of_one tS
  rw [rounds_succ]
  go_wp2_with fail
  go_quiet ((go_at_call 48; refine Calls.quiet_of_same (whole_ok p0)))
  have r2 := fun m => f50_11 (w := (Y.drewN nq).drewN m) (S := S1) (V := Vb) (O := Vb + 1) (L := L) (gB := gB) (B := Vb + 3) (M := w.heap.size) (n := 1) (v := v1) (xs := [.int .i64 0]) (by show Vb + 3 ≤ Y.heap.size; omega) (by omega) (by omega) (by omega) (by omega) tO (by omega) tS (by omega) town tvS dV p3 q3
  have r3 := any50_next (w := Y.drewN nq) (L := L) (S := S1) (V := Vb) (O := Vb + 1) (s := 1) (R0 := fun w1 => ∃ m, w1 = (Y.drewN nq).drewN m)
    (R := fun w' => ∃ v', w'.heap[Vb + 1]? = some (.cells #[v'] 31 (0, 0)) ∧ w'.heap[S1]? = some (.cells #[.int .i64 3] 3 (0, 0)) ∧ w'.ownsRow (Vb + 3) 3 1 v' 2 [.int .i64 0, .int .i64 1] ∧ Below w.heap.size Y w' ∧ Y.heap.size ≤ w'.heap.size ∧ ∀ k, k < Vb + 3 → k ≠ Vb + 1 → k ≠ S1 → w'.heap[k]? = Y.heap[k]?)
    p0 (f50_10 dS) (fun w1 hw => by
      obtain ⟨m, rfl⟩ := hw
      refine (r2 m).mono ?_
      rintro e w3 ⟨rfl, v2, k1, k2, k3, k4, k5, k6, k7⟩
      exact ⟨rfl, v2, k1, k2, k3, (show Below w.heap.size Y ((Y.drewN nq).drewN m) from ⟨rfl, rfl, rfl, Nat.le_refl _, fun _ _ => rfl⟩).trans k5, k6, k7⟩)
  go_wp2_with (go_at_call 49; refine r3.mono ?_; rintro e w4 ⟨rfl, v2, hO2, hS2, hown2, hM2, hsz2, hk2⟩; have dS2 := cell_of_one hS2)
  -- the third
  have uV := (Below.heap_alloc w4 (.cells #[.int .i64 3] 3) Vb (by omega)).trans ((hk2 Vb (by omega) (by omega) (by omega)).trans tV)
  have uO := (Below.heap_alloc w4 (.cells #[.int .i64 3] 3) (Vb + 1) (lt_of_block hO2)).trans hO2
  have uS := al1 w4 (.cells #[.int .i64 3] 3)
  have u0 : (w4.alloc (.cells #[.int .i64 3] 3)).cell? ⟨L, 0, none⟩ = some (.int .i64 2) := (World.cell?_of_block ((Below.heap_alloc w4 (.cells #[.int .i64 3] 3) L (by omega)).trans (hk2 L (by omega) (by omega) (by omega)))).trans p0
  have uM : Below w.heap.size w (w4.alloc (.cells #[.int .i64 3] 3)) := (tM.trans hM2).alloc (by omega) _
  have uown := World.ownsRow.alloc hown2 (.cells #[.int .i64 3] 3)
  clear tV tO tS p0 p3 q3 tM town tz r2 r3 dV dS hO2 hS2 hown2 hM2 hsz2 hk2 dS2
  generalize (w4.alloc (.cells #[.int .i64 3] 3)) = X at uV uO uS u0 uM uown ⊢
  generalize w4.heap.size = S2 at uS ⊢
  have dV := cell_of_one uV
  have dS := cell_of_one uS
  have dO := cell_of_one uO
  rw [rounds_succ]
  go_wp2_with fail
  go_quiet ((go_at_call 48; refine Calls.quiet_of_same (whole_ok u0)))
  go_wp2_with fail
  go_ret2
  exact ⟨v2, Vb + 3, rfl, uM.trans ⟨rfl, rfl, rfl, Nat.le_refl _, fun _ _ => rfl⟩, by omega, uown⟩
end Go.Proofs.YtlfdhaiigdllcaaGreatDoor

namespace Go.Proofs.YtlfdhaiigdllcaaGreatDoor
open Tryz Dn Dn.Sh Go.RowKit

abbrev wjobs : List (ByteArray × Bool × Int) := [({ data := #[(97 : UInt8)] }, false, (16 : Int)), ({ data := #[(98 : UInt8)] }, true, (18 : Int))]
open Classical in
/-- loftblock loadin.Order, at one input. -/
noncomputable def loadin_Order (x0 : ByteArray × Int × Int × Int × Int × (List Int) × Int × Int × Int × Int × Int × (List (ByteArray × Int × Int × Int × Int × Int × Int)) × List (ByteArray × Int × Int)) (x1 : List (ByteArray × Bool × Int)) : Option ((List Int) × Int × Unit) :=
  if x0 = wset ∧ x1 = wjobs then some ([(0 : Int), (1 : Int)], 0, ()) else none
noncomputable def c16 : Ctr := ⟨[T35, (.sl T43)], [], [], .tup [(.sl i64), i64], fun x _ _ => loadin_Order x.1 x.2.1⟩
theorem hv24 : c24.m (wset, PUnit.unit) PUnit.unit PUnit.unit = some true := by kernel_rfl
theorem hv34 : c34.m (wjobs, PUnit.unit) PUnit.unit PUnit.unit = some true := by kernel_rfl
theorem hv86 : c86.m (wset, (0 : Int), (0 : Int), PUnit.unit) PUnit.unit PUnit.unit = some ((6 : Int), (0 : Int), PUnit.unit) := by kernel_rfl
theorem hv9a : c9.m (wset, ({ data := #[(97 : UInt8)] }, false, (16 : Int)), PUnit.unit) PUnit.unit PUnit.unit = some ((-16 : Int), (0 : Int), PUnit.unit) := by kernel_rfl
theorem hv9b : c9.m (wset, ({ data := #[(98 : UInt8)] }, true, (18 : Int)), PUnit.unit) PUnit.unit PUnit.unit = some ((18 : Int), (0 : Int), PUnit.unit) := by kernel_rfl
theorem jobs2 {w : World} {Z : Nat → Prop} {cs : List Value} (h : Dat w Z (.sl T43) (wjobs : List T43.T) cs) : ∃ ad c, cs = [.slice (some ad) 2 c] ∧ 2 ≤ c ∧
    (∀ j v, [Value.string ⟨#[97]⟩, .bool false, .int .i64 16][j]? = some v → w.cell? (ad.add j) = some v) ∧ ∀ j v, [Value.string ⟨#[98]⟩, .bool true, .int .i64 18][j]? = some v → w.cell? (ad.add (3 + j)) = some v := by
  obtain ⟨A, c, rfl, hc, -, h⟩ := h
  obtain ⟨ad, rfl, -, h⟩ := h (Nat.succ_pos _)
  obtain ⟨e0, h1, h2⟩ := h 0 _ rfl
  obtain ⟨e1, h3, h4⟩ := h 1 _ rfl
  obtain ⟨_, _, rfl, k1, _, _, rfl, k2, k3⟩ := h1
  obtain ⟨_, _, rfl, k4, _, _, rfl, k5, k6⟩ := h3
  simp only [Dat] at k1 k2 k3 k4 k5 k6
  subst k1 k2 k3 k4 k5 k6
  refine ⟨ad, c, rfl, hc, fun j v hv => ?_, fun j v hv => ?_⟩
  · have := h2 j v hv
    rw [Nat.zero_mul, Nat.zero_add] at this
    exact this
  · have := h4 j v hv
    rw [Nat.one_mul] at this
    exact this
theorem two_ints {w : World} {Z : Nat → Prop} {a b : Int} {v : Value} (h : RetV w Z (.tup [i64, i64]) (a, b, ()) v) : v = .tuple #[.int .i64 a, .int .i64 b] := by
  obtain ⟨vs, rfl, v0, vs0, rfl, ⟨cs0, h0, rfl, -⟩, v1, vs1, rfl, ⟨cs1, h1, rfl, -⟩, rfl⟩ := h
  simp only [Dat] at h0 h1
  subst h0 h1
  rfl
set_option maxHeartbeats 400000 in
theorem ok16 : c16.ok prog 16 := by
  rintro ⟨x0, x1, ⟨⟩⟩ ⟨⟩ ⟨⟩ z hm w Z vals fvals cvals hG hZ hd hF hC
  replace hm : loadin_Order x0 x1 = some z := hm
  unfold loadin_Order at hm
  by_cases hx : x0 = wset ∧ x1 = wjobs
  case neg => rw [if_neg hx] at hm; cases hm
  rw [if_pos hx] at hm
  obtain ⟨rfl, rfl⟩ := hx
  obtain rfl := Option.some.inj hm
  obtain rfl : fvals = [] := hF
  obtain rfl : cvals = [] := hC
  obtain ⟨v0, vs0, rfl, hd1, v1, vs1, rfl, hd2, rfl⟩ := hd
  have m1 : ∀ w', Below w.heap.size w w' → DatV w' Z T35 wset v0 := fun w' hb => by
    obtain ⟨cs, g1, g2, g3⟩ := hd1
    exact ⟨cs, g1.mono (fun _ h => h) (fun b hb' => hb.block b (hZ b hb')), g2, g3⟩
  have m2 : ∀ w', Below w.heap.size w w' → DatV w' Z (.sl T43) wjobs v1 := fun w' hb => by
    obtain ⟨cs, g1, g2, g3⟩ := hd2
    exact ⟨cs, g1.mono (fun _ h => h) (fun b hb' => hb.block b (hZ b hb')), g2, g3⟩
  have mz : ∀ {w'}, Below w.heap.size w w' → ∀ b, Z b → b < w'.heap.size := fun hb b hb' => Nat.lt_of_lt_of_le (hZ b hb') hb.size
  have mi : ∀ w' (n : Int), DatV w' Z i64 n (.int .i64 n) := fun w' n => ⟨_, rfl, rfl, fun _ => rfl⟩
  have mj : ∀ w' (a : ByteArray) (b : Bool) (n : Int), DatV w' Z T43 (a, b, n) (.agg #[.string a, .bool b, .int .i64 n]) := fun w' a b n => ⟨_, ⟨_, _, rfl, rfl, _, _, rfl, rfl, rfl⟩, rfl, fun h => by cases h⟩
  have e24 : ∀ w', Below w.heap.size w w' → Calls prog 24 #[v0] w' fun e w'' => e = .returned (.bool true) ∧ Below w'.heap.size w' w'' := fun w' hb => by
    refine (ok24 _ _ _ _ hv24 w' Z [v0] [] [] (hG.mono hb) (mz hb) ⟨v0, [], rfl, m1 w' hb, rfl⟩ rfl rfl).mono ?_
    rintro e w'' ⟨v, rfl, ⟨cs, g1, g2, -⟩, hb2⟩
    simp only [Dat] at g1
    subst g1 g2
    exact ⟨rfl, hb2⟩
  have e34 : ∀ w', Below w.heap.size w w' → Calls prog 34 #[v1] w' fun e w'' => e = .returned (.bool true) ∧ Below w'.heap.size w' w'' := fun w' hb => by
    refine (ok34 _ _ _ _ hv34 w' Z [v1] [] [] (hG.mono hb) (mz hb) ⟨v1, [], rfl, m2 w' hb, rfl⟩ rfl rfl).mono ?_
    rintro e w'' ⟨v, rfl, ⟨cs, g1, g2, -⟩, hb2⟩
    simp only [Dat] at g1
    subst g1 g2
    exact ⟨rfl, hb2⟩
  have e86 : ∀ w', Below w.heap.size w w' → Calls prog 86 #[v0, .int .i64 0, .int .i64 0] w' fun e w'' => e = .returned (.tuple #[.int .i64 6, .int .i64 0]) ∧ Below w'.heap.size w' w'' := fun w' hb => by
    refine (ok86 _ _ _ _ hv86 w' Z [v0, .int .i64 0, .int .i64 0] [] [] (hG.mono hb) (mz hb) ⟨v0, _, rfl, m1 w' hb, _, _, rfl, mi w' 0, _, _, rfl, mi w' 0, rfl⟩ rfl rfl).mono ?_
    rintro e w'' ⟨v, rfl, hr, hb2⟩
    rw [two_ints hr]
    exact ⟨rfl, hb2⟩
  have e9a : ∀ w', Below w.heap.size w w' → Calls prog 9 #[v0, .agg #[.string ⟨#[97]⟩, .bool false, .int .i64 16]] w' fun e w'' => e = .returned (.tuple #[.int .i64 (-16), .int .i64 0]) ∧ Below w'.heap.size w' w'' := fun w' hb => by
    refine (ok9 _ _ _ _ hv9a w' Z [v0, .agg #[.string ⟨#[97]⟩, .bool false, .int .i64 16]] [] [] (hG.mono hb) (mz hb) ⟨v0, _, rfl, m1 w' hb, _, _, rfl, mj w' _ _ _, rfl⟩ rfl rfl).mono ?_
    rintro e w'' ⟨v, rfl, hr, hb2⟩
    rw [two_ints hr]
    exact ⟨rfl, hb2⟩
  have e9b : ∀ w', Below w.heap.size w w' → Calls prog 9 #[v0, .agg #[.string ⟨#[98]⟩, .bool true, .int .i64 18]] w' fun e w'' => e = .returned (.tuple #[.int .i64 (18), .int .i64 0]) ∧ Below w'.heap.size w' w'' := fun w' hb => by
    refine (ok9 _ _ _ _ hv9b w' Z [v0, .agg #[.string ⟨#[98]⟩, .bool true, .int .i64 18]] [] [] (hG.mono hb) (mz hb) ⟨v0, _, rfl, m1 w' hb, _, _, rfl, mj w' _ _ _, rfl⟩ rfl rfl).mono ?_
    rintro e w'' ⟨v, rfl, hr, hb2⟩
    rw [two_ints hr]
    exact ⟨rfl, hb2⟩
  obtain ⟨cs1, h1, rfl, -⟩ := hd1
  obtain ⟨cs2, h2, rfl, -⟩ := hd2
  obtain ⟨ar, cr, Ai, ci, ab, cb, rfl, g1, g2, g3, g4⟩ := dat_wset h1
  obtain ⟨aj, cj, rfl, g5, g6, g7⟩ := jobs2 h2
  refine (order_key w ar ab aj Ai cr ci cb cj g5 g6 g7 e24 e34 e86 e9a e9b).mono ?_
  rintro e w' ⟨v, B, rfl, hb, hB, hown⟩
  refine ⟨_, rfl, ⟨_, rfl, _, _, rfl, ?_, _, _, rfl, ⟨_, rfl, rfl, fun _ => rfl⟩, rfl⟩, hb⟩
  rcases hown.2 with ⟨_, h0⟩ | ⟨g, cap, cur, rfl, hg, hh, hcap, -, -, ht⟩
  · cases h0
  · refine ⟨[.slice (some ⟨g, 0, none⟩) 2 cap], ⟨some ⟨g, 0, none⟩, cap, rfl, hcap, (fun h => by cases h), fun _ => ⟨_, rfl, .inr ⟨Nat.le_trans hB hg, (Array.getElem?_eq_some_iff.1 hh).1⟩, fun k x hk => ⟨[.int .i64 x], rfl, fun j v hv => ?_⟩⟩⟩, rfl, fun _ => rfl⟩
    obtain rfl : j = 0 := by
      cases j with
      | zero => rfl
      | succ j => simp at hv
    have hv' : Value.int .i64 x = v := by simpa using hv
    subst hv'
    have := hown.cells (g := g) rfl k (.int .i64 x) (by
      match k, hk with
      | 0, hk => simpa using hk
      | 1, hk => simpa using hk)
    rw [show k * Sh.size i64 + 0 = k from by simp [Sh.size]]
    exact this
end Go.Proofs.YtlfdhaiigdllcaaGreatDoor

namespace Go.Proofs.YtlfdhaiigdllcaaGreatDoor
open Tryz Dn Dn.Sh
set_option maxRecDepth 100000
noncomputable def top_writtenAwake_b (_:Lp) (_:Jn) (arbor_Balance:(ByteArray×Int×Int×Int×Int×(List Int)×Int×Int×Int×Int×Int×(List (ByteArray×Int×Int×Int×Int×Int×Int))×List (ByteArray×Int×Int))->Option (Int×Int×Unit)) (top_writtenSet:Option (ByteArray×Int×Int×Int×Int×(List Int)×Int×Int×Int×Int×Int×(List (ByteArray×Int×Int×Int×Int×Int×Int))×List (ByteArray×Int×Int))) (loadin_Order:(ByteArray×Int×Int×Int×Int×(List Int)×Int×Int×Int×Int×Int×(List (ByteArray×Int×Int×Int×Int×Int×Int))×List (ByteArray×Int×Int))->(List (ByteArray×Bool×Int))->Option ((List Int)×Int×Unit)) (source_Text:(ByteArray×Int×(List (ByteArray×Int×Int×Int×Int×(List Int)×Int×Int×Int×Int×Int×(List (ByteArray×Int×Int×Int×Int×Int×Int))×List (ByteArray×Int×Int)))×List (ByteArray×Int×Int×Int))->((List (ByteArray×ByteArray×Int×Int×(List (ByteArray×Int×Int×Int×Int))×Int×Int))×List (ByteArray×ByteArray))->Option (ByteArray×Int×Unit)) (slices_Equal_18:(List Int)->(List Int)->Option (Bool)):Option Bool :=
 obind top_writtenSet fun (t:ByteArray×Int×Int×Int×Int×List Int×Int×Int×Int×Int×Int×List (ByteArray×Int×Int×Int×Int×Int×Int)×List (ByteArray×Int ×
  Int))=>obind (arbor_Balance t) fun (t:Int×Int×PUnit) =>
 let v4:Bool:=decide (t.2.1=(0:Int));
 let v5:Bool:=bif v4 then decide (t.1=(6:Int)) else false;
 let v6:Bool:=!v4||v4;
 let v7:Bool:=!v5||v5;obind top_writtenSet fun (t:ByteArray×Int×Int×Int×Int×List Int×Int×Int×Int×Int×Int×List (ByteArray×Int×Int×Int×Int×Int×Int)
  × List (ByteArray×Int×Int))=>obind (loadin_Order t [({ data:=#[(97:UInt8)] },false,(16:Int)),({ data:=#[(98:UInt8)] },true,(18:Int))]) fun (t:List Int×Int ×
  PUnit) =>
 let v10:Bool:=bif v5 then decide (t.2.1=(0:Int)) else false;
 let v11:Bool:=!v10||v10;obind top_writtenSet fun (t_1:ByteArray×Int×Int×Int×Int×List Int×Int×Int×Int×Int×Int×List (ByteArray×Int×Int×Int×Int×Int ×
  Int)×List (ByteArray×Int×Int))=>obind (source_Text ({ data:=#[(104:UInt8)] },(8000:Int),[t_1],[]) ([],[])) fun (t_2:ByteArray×Int×PUnit)=>bif v6 then bif v6
  then bif v7 then bif v7 then bif v11&&v11 then obind (bif v10 then slices_Equal_18 t.1 [(0:Int),(1:Int)] else some false) fun (t:Bool) =>
 let v15:Bool:=bif v10 then t else false;
 let v16:Bool:=!v15||v15;
 let v17:Bool:=bif v15 then decide (t_2.2.1=(0:Int)) else false;
 let v18:Bool:=!v17||v17;bif v11 then bif v16 then bif v16 then bif v18 then bif v18 then some (bif v17 then List.beq (ByteArray.toList t_2.1) (ByteArray.toList { data:=List.toArray (List.append [(104:UInt8),(111:UInt8),(117:UInt8),(115:UInt8),(101:UInt8),(32:UInt8),(104:UInt8),(32:UInt8),(56:UInt8),(48:UInt8),(48:UInt8),(48:UInt8),(10:UInt8),(115:UInt8),(101:UInt8),(116:UInt8),(32:UInt8),(115:UInt8),(32:UInt8),(48:UInt8),(32:UInt8),(48:UInt8),(32:UInt8),(56:UInt8),(48:UInt8),(48:UInt8),(48:UInt8),(32:UInt8),(49:UInt8),(48:UInt8),(48:UInt8),(48:UInt8),(32:UInt8)] [(54:UInt8),(48:UInt8),(32:UInt8),(52:UInt8),(48:UInt8),(32:UInt8),(49:UInt8),(32:UInt8),(49:UInt8),(48:UInt8),(48:UInt8),(32:UInt8),(49:UInt8),(48:UInt8),(32:UInt8),(48:UInt8),(32:UInt8),(49:UInt8),(48:UInt8),(48:UInt8),(48:UInt8),(10:UInt8),(98:UInt8),(114:UInt8),(105:UInt8),(99:UInt8),(107:UInt8),(32:UInt8),(98:UInt8),(32:UInt8),(55:UInt8),(32:UInt8),(50:UInt8),(10:UInt8)]) }) else false) else none else none else none else none else none else none else none else none else none else none
noncomputable def top_writtenAwake:Option Bool:=top_writtenAwake_b lpK jnK arbor_Balance top_writtenSet loadin_Order source_Text slices_Equal_18
noncomputable def c4:Ctr:=⟨[],[],[],.one .bool,fun _ _ _=>top_writtenAwake⟩
theorem e4 (lp:Lp) (jn:Jn) (arbor_Balance:(ByteArray×Int×Int×Int×Int×(List Int)×Int×Int×Int×Int×Int×(List (ByteArray×Int×Int×Int×Int×Int×Int))×List (ByteArray×Int×Int))->Option (Int×Int×Unit)) (top_writtenSet:Option (ByteArray×Int×Int×Int×Int×(List Int)×Int×Int×Int×Int×Int×(List (ByteArray×Int×Int×Int×Int×Int×Int))×List (ByteArray×Int×Int))) (loadin_Order:(ByteArray×Int×Int×Int×Int×(List Int)×Int×Int×Int×Int×Int×(List (ByteArray×Int×Int×Int×Int×Int×Int))×List (ByteArray×Int×Int))->(List (ByteArray×Bool×Int))->Option ((List Int)×Int×Unit)) (source_Text:(ByteArray×Int×(List (ByteArray×Int×Int×Int×Int×(List Int)×Int×Int×Int×Int×Int×(List (ByteArray×Int×Int×Int×Int×Int×Int))×List (ByteArray×Int×Int)))×List (ByteArray×Int×Int×Int))->((List (ByteArray×ByteArray×Int×Int×(List (ByteArray×Int×Int×Int×Int))×Int×Int))×List (ByteArray×ByteArray))->Option (ByteArray×Int×Unit)) (slices_Equal_18:(List Int)->(List Int)->Option (Bool)):∀(x:TsS c4.as) (F:TsF c4.fs) (y:TsS c4.cs),top_writtenAwake_b lp jn arbor_Balance top_writtenSet loadin_Order source_Text slices_Equal_18=runC lp jn (ctxOf prog shs inls its [(18,⟨[(.sl i64),(.sl i64)],[],[],.one .bool,fun x _ _=>slices_Equal_18 x.1 x.2.1⟩),(17,⟨[T25,T64],[],[],.tup [.str,i64],fun x _ _=>source_Text x.1 x.2.1⟩),(16,⟨[T35,(.sl T43)],[],[],.tup [(.sl i64),i64],fun x _ _=>loadin_Order x.1 x.2.1⟩),(15,⟨[],[],[],.one T35,fun _ _ _=>top_writtenSet⟩),(8,⟨[T35],[],[],.tup [i64,i64],fun x _ _=>arbor_Balance x.1⟩)] [(113,r113),(39,r39),(69,r69),(68,r68),(67,r67)]) hints 4 4 f4 c4 x F y:=fun x F y=>by kernel_rfl
theorem l4:(ctxOf prog shs inls its [(18,c18),(17,c17),(16,c16),(15,c15),(8,c8)] [(113,r113),(39,r39),(69,r69),(68,r68),(67,r67)]).ok:=ctxOf_cons (ctxOf_cons (ctxOf_cons (ctxOf_cons (ctxOf_cons (q113) (by kernel_rfl) ok8) (by kernel_rfl) ok15) (by kernel_rfl) ok16) (by kernel_rfl) ok17) (by kernel_rfl) ok18
theorem ok4:c4.ok prog 4:=Ctr.of_den l4 hmix (hl:=hints) (d:=4) func4 rfl (by decide) (e4 lpK jnK arbor_Balance top_writtenSet loadin_Order source_Text slices_Equal_18)
set_option maxRecDepth 100000
noncomputable def ref21_Small_b (lp:Lp) (_:Jn) (x0:ByteArray×Int×Int×Int×Int×(List Int)×Int×Int×Int×Int×Int×(List (ByteArray×Int×Int×Int×Int×Int×Int))×List (ByteArray×Int×Int)) (x1:Int):Option Bool :=
 
 let v4:Bool:=decide ((↑(ByteArray.size x0.1):Int)>(60:Int));
 let v5:Bool:=!v4;
 let v6:Bool:=!v5||v5;
 let v7:Bool:=bif v4 then true else decide ((↑(List.length x0.2.2.2.2.2.1):Int)>(12:Int));
 let v8:Bool:=!v7;
 let v9:Bool:=!v8;
 let v10:Bool:=decide ((↑(List.length x0.2.2.2.2.2.2.2.2.2.2.2.1):Int)>x1);
 let v11:Bool:=v9||v8;
 let v12:Bool:=v8&&v10;
 let v13:Bool:=bif v7 then true else bif v10 then decide ((↑(List.length x0.2.2.2.2.2.2.2.2.2.2.2.1):Int)<=(40:Int)) else false;
 let v14:Bool:=!v13;
 let v15:Bool:=!v12||v12;
 let v16:Bool:=bif v13 then true else decide ((↑(List.length x0.2.2.2.2.2.2.2.2.2.2.2.1):Int)>(45:Int));
 let v17:Bool:=!v16;
 let v18:Bool:=!v14||v14;
 let v19:Bool:=!v17||v17;bif v6 then bif v6 then bif v6 then bif v4||v5 then bif v11 then bif v11 then bif v11&&v11 then bif v11 then bif v15 then bif v15 then bif v15 then bif
  (v9||v11)&&(v9||(!v10||(v9||v12))) then bif v7||v8 then bif v18 then bif v18 then bif v18 then bif v13||v14 then bif v19 then bif v19 then bif v19 then bif v16||v17 then
  bif bif v16 then true else decide ((↑(List.length x0.2.2.2.2.2.2.2.2.2.2.2.2):Int)>(10:Int)) then some false else lp (Int×PUnit) Bool (fun (again:Int ×
  PUnit->Option Bool) (x:Int×PUnit)=>bif decide (x.1<(↑(List.length x0.2.2.2.2.2.2.2.2.2.2.2.1):Int)) then bif inB x.1 (List.length
  x0.2.2.2.2.2.2.2.2.2.2.2.1) then bif decide ((↑(ByteArray.size (List.getD x0.2.2.2.2.2.2.2.2.2.2.2.1 (Int.toNat x.1) ({ data:={
  toList:=[] } },(0:Int),(0:Int),(0:Int),(0:Int),(0:Int),(0:Int))).1):Int)>(60:Int)) then some false else again (IntKind.wrap .i64 (x.1+(1:Int)),
  PUnit.unit) else none else lp (Int×PUnit) Bool (fun (again:Int×PUnit->Option Bool) (x:Int×PUnit)=>bif decide (x.1<(↑(List.length
  x0.2.2.2.2.2.2.2.2.2.2.2.2):Int)) then bif inB x.1 (List.length x0.2.2.2.2.2.2.2.2.2.2.2.2) then bif decide ((↑(ByteArray.size
  (List.getD x0.2.2.2.2.2.2.2.2.2.2.2.2 (Int.toNat x.1) ({ data:={ toList:=[] } },(0:Int),(0:Int))).1):Int)>(60:Int)) then some false else
  again (IntKind.wrap .i64 (x.1+(1:Int)),PUnit.unit) else none else some true) ((0:Int),PUnit.unit)) ((0:Int),PUnit.unit) else none else none else none else none else
  none else none else none else none else none else none else none else none else none else none else none else none else none else none else none else none else none
noncomputable def ref21_Small (x0:ByteArray×Int×Int×Int×Int×(List Int)×Int×Int×Int×Int×Int×(List (ByteArray×Int×Int×Int×Int×Int×Int))×List (ByteArray×Int×Int)) (x1:Int):Option Bool:=ref21_Small_b lpK jnK x0 x1
noncomputable def c19:Ctr:=⟨[T35,i64],[],[],.one .bool,fun x _ _=>ref21_Small x.1 x.2.1⟩
theorem e19 (lp:Lp) (jn:Jn):∀(x:TsS c19.as) (F:TsF c19.fs) (y:TsS c19.cs),ref21_Small_b lp jn x.1 x.2.1=runC lp jn (ctxOf prog shs inls its [] [(113,r113),(39,r39),(69,r69),(68,r68),(67,r67)]) hints 4 19 f19 c19 x F y:=fun x F y=>by kernel_rfl
theorem l19:(ctxOf prog shs inls its [] [(113,r113),(39,r39),(69,r69),(68,r68),(67,r67)]).ok:=q113
theorem ok19:c19.ok prog 19:=Ctr.of_den l19 hmix (hl:=hints) (d:=4) func19 rfl (by decide) (e19 lpK jnK)
noncomputable def ref30_Small_b (lp:Lp) (_:Jn) (ref21_Small:(ByteArray×Int×Int×Int×Int×(List Int)×Int×Int×Int×Int×Int×(List (ByteArray×Int×Int×Int×Int×Int×Int))×List (ByteArray×Int×Int))->(Int)->Option (Bool)) (x0:ByteArray×Int×(List (ByteArray×Int×Int×Int×Int×(List Int)×Int×Int×Int×Int×Int×(List (ByteArray×Int×Int×Int×Int×Int×Int))×List (ByteArray×Int×Int)))×List (ByteArray×Int×Int×Int)) (x1:Int):Option Bool :=
 
 let v4:Bool:=decide ((↑(List.length x0.2.2.1):Int)>x1);
 let v5:Bool:=!v4;
 let v6:Bool:=bif v4 then true else decide ((↑(List.length x0.2.2.2):Int)>IntKind.wrap .i64 (x1+(10:Int)));
 let v7:Bool:=!v6;
 let v8:Bool:=!v5||v5;
 let v9:Bool:=!v7||v7;bif v8 then bif v8 then bif v8 then bif v8&&v8 then bif v4||v5 then bif v9 then bif v9 then bif v9 then bif v6||v7 then bif bif v6 then true else decide
  ((↑(ByteArray.size x0.1):Int)>(60:Int)) then some false else lp (Int×PUnit) Bool (fun (again:Int×PUnit->Option Bool) (x:Int×PUnit)=>bif decide (x.1 <
  (↑(List.length x0.2.2.1):Int)) then bif inB x.1 (List.length x0.2.2.1) then obind (ref21_Small (List.getD x0.2.2.1 (Int.toNat x.1) ({ data:={ toList:=[] } },
  (0:Int),(0:Int),(0:Int),(0:Int),[],(0:Int),(0:Int),(0:Int),(0:Int),(0:Int),[],[])) (8:Int)) fun (t:Bool)=>bif !t then some false else again
  (IntKind.wrap .i64 (x.1+(1:Int)),PUnit.unit) else none else lp (Int×PUnit) Bool (fun (again:Int×PUnit->Option Bool) (x:Int×PUnit)=>bif decide (x.1 <
  (↑(List.length x0.2.2.2):Int)) then bif inB x.1 (List.length x0.2.2.2) then bif decide ((↑(ByteArray.size (List.getD x0.2.2.2 (Int.toNat x.1) ({ data:={ toList
  :=[] } },(0:Int),(0:Int),(0:Int))).1):Int)>(60:Int)) then some false else again (IntKind.wrap .i64 (x.1+(1:Int)),PUnit.unit) else none else some true)
  ((0:Int),PUnit.unit)) ((0:Int),PUnit.unit) else none else none else none else none else none else none else none else none else none
noncomputable def ref30_Small (x0:ByteArray×Int×(List (ByteArray×Int×Int×Int×Int×(List Int)×Int×Int×Int×Int×Int×(List (ByteArray×Int×Int×Int×Int×Int×Int))×List (ByteArray×Int×Int)))×List (ByteArray×Int×Int×Int)) (x1:Int):Option Bool:=ref30_Small_b lpK jnK ref21_Small x0 x1
noncomputable def c5:Ctr:=⟨[T25,i64],[],[],.one .bool,fun x _ _=>ref30_Small x.1 x.2.1⟩
theorem e5 (lp:Lp) (jn:Jn) (ref21_Small:(ByteArray×Int×Int×Int×Int×(List Int)×Int×Int×Int×Int×Int×(List (ByteArray×Int×Int×Int×Int×Int×Int))×List (ByteArray×Int×Int))->(Int)->Option (Bool)):∀(x:TsS c5.as) (F:TsF c5.fs) (y:TsS c5.cs),ref30_Small_b lp jn ref21_Small x.1 x.2.1=runC lp jn (ctxOf prog shs inls its [(19,⟨[T35,i64],[],[],.one .bool,fun x _ _=>ref21_Small x.1 x.2.1⟩)] [(113,r113),(39,r39),(69,r69),(68,r68),(67,r67)]) hints 4 5 f5 c5 x F y:=fun x F y=>by kernel_rfl
theorem l5:(ctxOf prog shs inls its [(19,c19)] [(113,r113),(39,r39),(69,r69),(68,r68),(67,r67)]).ok:=ctxOf_cons (q113) (by kernel_rfl) ok19
theorem ok5:c5.ok prog 5:=Ctr.of_den l5 hmix (hl:=hints) (d:=4) func5 rfl (by decide) (e5 lpK jnK ref21_Small)
noncomputable def ref01_Letter_b (_:Lp) (_:Jn) (x0:Int):Option Bool :=
 
 let v3:Bool:=decide (x0>=(97:Int));
 let v4:Bool:=decide (x0>=(65:Int));
 let v5:Bool:=!v3||v3;
 let v6:Bool:=bif v3 then decide (x0<=(122:Int)) else false;
 let v7:Bool:=!v6;
 let v8:Bool:=!v7;
 let v9:Bool:=v7&&v4;
 let v10:Bool:=v8||v7;bif v5 then bif v5 then bif v10 then bif v10 then bif !v9||v9 then bif (v8||v10)&&(v8||(!v4||(v8||v9))) then bif v6||v7 then some (bif v6 then
  true else bif v4 then decide (x0<=(90:Int)) else false) else none else none else none else none else none else none else none
noncomputable def ref01_Letter (x0:Int):Option Bool:=ref01_Letter_b lpK jnK x0
noncomputable def c55:Ctr:=⟨[(.int .u8)],[],[],.one .bool,fun x _ _=>ref01_Letter x.1⟩
theorem e55 (lp:Lp) (jn:Jn):∀(x:TsS c55.as) (F:TsF c55.fs) (y:TsS c55.cs),ref01_Letter_b lp jn x.1=runC lp jn (ctxOf prog shs inls its [] [(113,r113),(39,r39),(69,r69),(68,r68),(67,r67)]) hints 4 55 f55 c55 x F y:=fun x F y=>by kernel_rfl
theorem l55:(ctxOf prog shs inls its [] [(113,r113),(39,r39),(69,r69),(68,r68),(67,r67)]).ok:=q113
theorem ok55:c55.ok prog 55:=Ctr.of_den l55 hmix (hl:=hints) (d:=4) func55 rfl (by decide) (e55 lpK jnK)
noncomputable def ref01_Digit_b (_:Lp) (_:Jn) (x0:Int):Option Bool :=
 
 let v3:Bool:=decide (x0>=(48:Int));
 let v4:Bool:=!v3||v3;bif v4 then bif v4 then some (bif v3 then decide (x0<=(57:Int)) else false) else none else none
noncomputable def ref01_Digit (x0:Int):Option Bool:=ref01_Digit_b lpK jnK x0
noncomputable def c95:Ctr:=⟨[(.int .u8)],[],[],.one .bool,fun x _ _=>ref01_Digit x.1⟩
theorem e95 (lp:Lp) (jn:Jn):∀(x:TsS c95.as) (F:TsF c95.fs) (y:TsS c95.cs),ref01_Digit_b lp jn x.1=runC lp jn (ctxOf prog shs inls its [] [(113,r113),(39,r39),(69,r69),(68,r68),(67,r67)]) hints 4 95 f95 c95 x F y:=fun x F y=>by kernel_rfl
theorem l95:(ctxOf prog shs inls its [] [(113,r113),(39,r39),(69,r69),(68,r68),(67,r67)]).ok:=q113
theorem ok95:c95.ok prog 95:=Ctr.of_den l95 hmix (hl:=hints) (d:=4) func95 rfl (by decide) (e95 lpK jnK)
noncomputable def ref01_word_b (lp:Lp) (_:Jn) (ref01_Letter:(Int)->Option (Bool)) (ref01_Digit:(Int)->Option (Bool)) (x0:ByteArray) (x1:Int):Option Int :=
 lp (Int×PUnit) Int (fun (again:Int×PUnit->Option Int) (x:Int×PUnit) =>
 let v6:Bool:=inB x.1 (ByteArray.size x0);
 let v7:Int:=byteAt x0 (Int.toNat x.1);
 let v8:Bool:=decide (x.1<(↑(ByteArray.size x0):Int));
 let v9:Bool:=!v8;
 let v10:Bool:=v9||v8;
 let v11:Bool:=v9||v10;bif v10&&(v10&&(v9||v6)) then bif v10 then obind (bif v8 then ref01_Letter v7 else some false) fun (t:Bool) =>
 let v13:Bool:=v8&&!t;
 let v14:Bool:=!v13;
 let v15:Bool:=v14||v13;bif v10 then bif v15&&(v15&&(v14||v6)) then bif v15 then obind (bif v13 then ref01_Digit v7 else some false) fun (t_1:Bool) =>
 let v17:Bool:=bif t then true else t_1;
 let v18:Bool:=v8&&!v17;
 let v19:Bool:=!v18;
 let v20:Bool:=v19||v18;bif v11&&(v9||(t||(v9||v13))) then bif v10 then bif v20&&(v20&&(v19||v6)) then bif v20 then bif v11&&(v9||(v17||(v9||v18))) then bif
  v10 then bif bif v8 then bif v17 then true else decide (v7=(95:Int)) else false then again (IntKind.wrap .i64 (x.1+(1:Int)),PUnit.unit) else some x.1 else none else
  none else none else none else none else none else none else none else none else none else none) (x1,PUnit.unit)
noncomputable def ref01_word (x0:ByteArray) (x1:Int):Option Int:=ref01_word_b lpK jnK ref01_Letter ref01_Digit x0 x1
noncomputable def c56:Ctr:=⟨[.str,i64],[],[],.one i64,fun x _ _=>ref01_word x.1 x.2.1⟩
theorem e56 (lp:Lp) (jn:Jn) (ref01_Letter:(Int)->Option (Bool)) (ref01_Digit:(Int)->Option (Bool)):∀(x:TsS c56.as) (F:TsF c56.fs) (y:TsS c56.cs),ref01_word_b lp jn ref01_Letter ref01_Digit x.1 x.2.1=runC lp jn (ctxOf prog shs inls its [(95,⟨[(.int .u8)],[],[],.one .bool,fun x _ _=>ref01_Digit x.1⟩),(55,⟨[(.int .u8)],[],[],.one .bool,fun x _ _=>ref01_Letter x.1⟩)] [(113,r113),(39,r39),(69,r69),(68,r68),(67,r67)]) hints 4 56 f56 c56 x F y:=fun x F y=>by kernel_rfl
theorem l56:(ctxOf prog shs inls its [(95,c95),(55,c55)] [(113,r113),(39,r39),(69,r69),(68,r68),(67,r67)]).ok:=ctxOf_cons (ctxOf_cons (q113) (by kernel_rfl) ok55) (by kernel_rfl) ok95
theorem ok56:c56.ok prog 56:=Ctr.of_den l56 hmix (hl:=hints) (d:=4) func56 rfl (by decide) (e56 lpK jnK ref01_Letter ref01_Digit)
noncomputable def ref01_IsName_b (_:Lp) (_:Jn) (ref01_Letter:(Int)->Option (Bool)) (ref01_word:(ByteArray)->(Int)->Option (Int)) (x0:ByteArray):Option Bool :=
 
 let v3:Bool:=decide ((↑(ByteArray.size x0):Int)=(0:Int));
 let v4:Bool:=!v3;
 let v5:Bool:=!v4||v4;
 let v6:Bool:=bif v3 then true else decide ((↑(ByteArray.size x0):Int)>(20:Int));
 let v7:Bool:=!v6;
 let v8:Bool:=!v7;
 let v9:Bool:=v8||v7;bif v5 then bif v5 then bif v3||v4 then bif v9&&(v8||inB (0:Int) (ByteArray.size x0)) then bif v9 then obind (bif v7 then ref01_Letter (byteAt x0 (0 :
  Nat)) else some false) fun (t:Bool)=>bif v9 then bif v6||v7 then bif bif v6 then true else !t then some false else obind (ref01_word x0 (0:Int)) fun (t:Int)=>some (decide (t
  = (↑(ByteArray.size x0):Int))) else none else none else none else none else none else none else none
noncomputable def ref01_IsName (x0:ByteArray):Option Bool:=ref01_IsName_b lpK jnK ref01_Letter ref01_word x0
noncomputable def c20:Ctr:=⟨[.str],[],[],.one .bool,fun x _ _=>ref01_IsName x.1⟩
theorem e20 (lp:Lp) (jn:Jn) (ref01_Letter:(Int)->Option (Bool)) (ref01_word:(ByteArray)->(Int)->Option (Int)):∀(x:TsS c20.as) (F:TsF c20.fs) (y:TsS c20.cs),ref01_IsName_b lp jn ref01_Letter ref01_word x.1=runC lp jn (ctxOf prog shs inls its [(56,⟨[.str,i64],[],[],.one i64,fun x _ _=>ref01_word x.1 x.2.1⟩),(55,⟨[(.int .u8)],[],[],.one .bool,fun x _ _=>ref01_Letter x.1⟩)] [(113,r113),(39,r39),(69,r69),(68,r68),(67,r67)]) hints 4 20 f20 c20 x F y:=fun x F y=>by kernel_rfl
theorem l20:(ctxOf prog shs inls its [(56,c56),(55,c55)] [(113,r113),(39,r39),(69,r69),(68,r68),(67,r67)]).ok:=ctxOf_cons (ctxOf_cons (q113) (by kernel_rfl) ok55) (by kernel_rfl) ok56
theorem ok20:c20.ok prog 20:=Ctr.of_den l20 hmix (hl:=hints) (d:=4) func20 rfl (by decide) (e20 lpK jnK ref01_Letter ref01_word)
noncomputable def ref19_between_b (_:Lp) (_:Jn) (x0:Int) (x1:Int) (x2:Int):Option Bool :=
 
 let v5:Bool:=decide (x0>=x1);
 let v6:Bool:=!v5||v5;bif v6&&v6 then bif v6 then some (bif v5 then decide (x0<=x2) else false) else none else none
noncomputable def ref19_between (x0:Int) (x1:Int) (x2:Int):Option Bool:=ref19_between_b lpK jnK x0 x1 x2
noncomputable def c57:Ctr:=⟨[i64,i64,i64],[],[],.one .bool,fun x _ _=>ref19_between x.1 x.2.1 x.2.2.1⟩
theorem e57 (lp:Lp) (jn:Jn):∀(x:TsS c57.as) (F:TsF c57.fs) (y:TsS c57.cs),ref19_between_b lp jn x.1 x.2.1 x.2.2.1=runC lp jn (ctxOf prog shs inls its [] [(113,r113),(39,r39),(69,r69),(68,r68),(67,r67)]) hints 4 57 f57 c57 x F y:=fun x F y=>by kernel_rfl
theorem l57:(ctxOf prog shs inls its [] [(113,r113),(39,r39),(69,r69),(68,r68),(67,r67)]).ok:=q113
theorem ok57:c57.ok prog 57:=Ctr.of_den l57 hmix (hl:=hints) (d:=4) func57 rfl (by decide) (e57 lpK jnK)
noncomputable def ref19_Valid_b (lp:Lp) (_:Jn) (ref01_IsName:(ByteArray)->Option (Bool)) (ref19_between:(Int)->(Int)->(Int)->Option (Bool)) (x0:List (ByteArray×Int×Int×Int)):Option Bool :=
 bif decide ((↑(List.length x0):Int)>(20:Int)) then some false else lp (Int×PUnit) Bool (fun (again:Int×PUnit->Option Bool) (x:Int×PUnit) =>
 let v5:ByteArray×Int×Int×Int:=List.getD x0 (Int.toNat x.1) ({ data:={ toList:=[] } },(0:Int),(0:Int),(0:Int));bif decide (x.1<(↑(List.length x0):Int)) then
  bif inB x.1 (List.length x0) then obind (ref01_IsName v5.1) fun (t:Bool) =>
 let v7:Bool:=!t;
 let v8:Bool:=!v7;
 let v9:Bool:=!v8||v8;bif v9 then bif v9 then bif v9&&v9 then obind (bif v8 then ref19_between v5.2.1 (0:Int) v5.2.2.1 else some false) fun (t:Bool) =>
 let v11:Bool:=bif v7 then true else !t;
 let v12:Bool:=!v11;
 let v13:Bool:=!v12||v12;bif v9 then bif v7||v8 then bif v13 then bif v13 then obind (bif v12 then ref19_between v5.2.2.1 (0:Int) (1048576:Int) else some false) fun (t :
  Bool) =>
 let v15:Bool:=bif v11 then true else !t;
 let v16:Bool:=!v15;
 let v17:Bool:=!v16||v16;bif v13 then bif v11||v12 then bif v17 then bif v17 then obind (bif v16 then ref19_between v5.2.2.2 (0:Int) (67108864:Int) else some false) fun
  (t:Bool)=>bif v17 then bif v15||v16 then bif bif v15 then true else !t then some false else lp (Int×PUnit) Bool (fun (again_1:Int×PUnit->Option Bool) (x_1:Int×PUnit) =>
  bif decide (x_1.1<x.1) then bif inB x_1.1 (List.length x0) then bif List.beq (ByteArray.toList (List.getD x0 (Int.toNat x_1.1) ({ data:={ toList:=[] } },(0:Int),(0 :
  Int),(0:Int))).1) (ByteArray.toList v5.1) then some false else again_1 (IntKind.wrap .i64 (x_1.1+(1:Int)),PUnit.unit) else none else again (IntKind.wrap .i64
  (x.1+(1:Int)),PUnit.unit)) ((0:Int),PUnit.unit) else none else none else none else none else none else none else none else none else none else none else none else none else
  none else none else some true) ((0:Int),PUnit.unit)
noncomputable def ref19_Valid (x0:List (ByteArray×Int×Int×Int)):Option Bool:=ref19_Valid_b lpK jnK ref01_IsName ref19_between x0
noncomputable def c21:Ctr:=⟨[(.sl T68)],[],[],.one .bool,fun x _ _=>ref19_Valid x.1⟩
theorem e21 (lp:Lp) (jn:Jn) (ref01_IsName:(ByteArray)->Option (Bool)) (ref19_between:(Int)->(Int)->(Int)->Option (Bool)):∀(x:TsS c21.as) (F:TsF c21.fs) (y:TsS c21.cs),ref19_Valid_b lp jn ref01_IsName ref19_between x.1=runC lp jn (ctxOf prog shs inls its [(57,⟨[i64,i64,i64],[],[],.one .bool,fun x _ _=>ref19_between x.1 x.2.1 x.2.2.1⟩),(20,⟨[.str],[],[],.one .bool,fun x _ _=>ref01_IsName x.1⟩)] [(113,r113),(39,r39),(69,r69),(68,r68),(67,r67)]) hints 4 21 f21 c21 x F y:=fun x F y=>by kernel_rfl
theorem l21:(ctxOf prog shs inls its [(57,c57),(20,c20)] [(113,r113),(39,r39),(69,r69),(68,r68),(67,r67)]).ok:=ctxOf_cons (ctxOf_cons (q113) (by kernel_rfl) ok20) (by kernel_rfl) ok57
theorem ok21:c21.ok prog 21:=Ctr.of_den l21 hmix (hl:=hints) (d:=4) func21 rfl (by decide) (e21 lpK jnK ref01_IsName ref19_between)
noncomputable def ref21_between_b (_:Lp) (_:Jn) (x0:Int) (x1:Int) (x2:Int):Option Bool :=
 
 let v5:Bool:=decide (x0>=x1);
 let v6:Bool:=!v5||v5;bif v6&&v6 then bif v6 then some (bif v5 then decide (x0<=x2) else false) else none else none
noncomputable def ref21_between (x0:Int) (x1:Int) (x2:Int):Option Bool:=ref21_between_b lpK jnK x0 x1 x2
noncomputable def c58:Ctr:=⟨[i64,i64,i64],[],[],.one .bool,fun x _ _=>ref21_between x.1 x.2.1 x.2.2.1⟩
theorem e58 (lp:Lp) (jn:Jn):∀(x:TsS c58.as) (F:TsF c58.fs) (y:TsS c58.cs),ref21_between_b lp jn x.1 x.2.1 x.2.2.1=runC lp jn (ctxOf prog shs inls its [] [(113,r113),(39,r39),(69,r69),(68,r68),(67,r67)]) hints 4 58 f58 c58 x F y:=fun x F y=>by kernel_rfl
theorem l58:(ctxOf prog shs inls its [] [(113,r113),(39,r39),(69,r69),(68,r68),(67,r67)]).ok:=q113
theorem ok58:c58.ok prog 58:=Ctr.of_den l58 hmix (hl:=hints) (d:=4) func58 rfl (by decide) (e58 lpK jnK)
noncomputable def ref21_alone_b (_:Lp) (_:Jn) (ref01_IsName:(ByteArray)->Option (Bool)) (ref21_between:(Int)->(Int)->(Int)->Option (Bool)) (x0:ByteArray×Int×Int×Int×Int×Int×Int) (x1:Int):Option Bool :=
 obind (ref01_IsName x0.1) fun (t:Bool) =>
 let v5:Bool:=!t||t;bif v5 then bif v5 then obind (bif t then ref21_between x0.2.2.1 (1:Int) (1048576:Int) else some false) fun (t_1:Bool) =>
 let v7:Bool:=bif t then t_1 else false;
 let v8:Bool:=!v7||v7;
 let v9:Bool:=v8&&v8;bif v5 then bif v8 then bif v8 then bif v9 then bif v9 then obind (bif v7 then ref21_between x0.2.1 (0:Int) (IntKind.wrap .i64 (x1 -
  x0.2.2.1)) else some false) fun (t:Bool) =>
 let v11:Bool:=bif v7 then t else false;
 let v12:Bool:=!v11||v11;bif v8 then bif v12 then bif v12 then obind (bif v11 then ref21_between x0.2.2.2.1 (0:Int) (1048576:Int) else some false) fun (t:Bool) =>
 let v14:Bool:=bif v11 then t else false;
 let v15:Bool:=!v14||v14;bif v12 then bif v15 then bif v15 then obind (bif v14 then ref21_between x0.2.2.2.2.1 (0:Int) (1048576:Int) else some false) fun (t:Bool) =>
 let v17:Bool:=bif v14 then t else false;
 let v18:Bool:=!v17||v17;bif v15 then bif v18 then bif v18 then obind (bif v17 then ref21_between x0.2.2.2.2.2.1 (0:Int) (1048576:Int) else some false) fun (t :
  Bool) =>
 let v20:Bool:=bif v17 then t else false;
 let v21:Bool:=!v20||v20;bif v18 then bif v21 then bif v21 then obind (bif v20 then ref21_between x0.2.2.2.2.2.2 (0:Int) (1048576:Int) else some false) fun (t :
  Bool)=>bif v21 then some (bif v20 then t else false) else none else none else none else none else none else none else none else none else none else none else none else none else none
  else none else none else none else none else none else none else none
noncomputable def ref21_alone (x0:ByteArray×Int×Int×Int×Int×Int×Int) (x1:Int):Option Bool:=ref21_alone_b lpK jnK ref01_IsName ref21_between x0 x1
noncomputable def c96:Ctr:=⟨[T27,i64],[],[],.one .bool,fun x _ _=>ref21_alone x.1 x.2.1⟩
theorem e96 (lp:Lp) (jn:Jn) (ref01_IsName:(ByteArray)->Option (Bool)) (ref21_between:(Int)->(Int)->(Int)->Option (Bool)):∀(x:TsS c96.as) (F:TsF c96.fs) (y:TsS c96.cs),ref21_alone_b lp jn ref01_IsName ref21_between x.1 x.2.1=runC lp jn (ctxOf prog shs inls its [(58,⟨[i64,i64,i64],[],[],.one .bool,fun x _ _=>ref21_between x.1 x.2.1 x.2.2.1⟩),(20,⟨[.str],[],[],.one .bool,fun x _ _=>ref01_IsName x.1⟩)] [(113,r113),(39,r39),(69,r69),(68,r68),(67,r67)]) hints 4 96 f96 c96 x F y:=fun x F y=>by kernel_rfl
theorem l96:(ctxOf prog shs inls its [(58,c58),(20,c20)] [(113,r113),(39,r39),(69,r69),(68,r68),(67,r67)]).ok:=ctxOf_cons (ctxOf_cons (q113) (by kernel_rfl) ok20) (by kernel_rfl) ok58
theorem ok96:c96.ok prog 96:=Ctr.of_den l96 hmix (hl:=hints) (d:=4) func96 rfl (by decide) (e96 lpK jnK ref01_IsName ref21_between)
noncomputable def ref21_Apart_b (_:Lp) (_:Jn) (x0:ByteArray×Int×Int×Int×Int×Int×Int) (x1:ByteArray×Int×Int×Int×Int×Int×Int):Option Bool :=
 
 let v4:Bool:=decide (IntKind.wrap .i64 (x0.2.1+x0.2.2.1)<=x1.2.1);
 let v5:Bool:=!v4;
 let v6:Bool:=!v5||v5;
 let v7:Bool:=v6&&v6;bif v6 then bif v6 then bif v7 then bif v6 then bif v7 then bif v4||v5 then some (bif v4 then true else decide (IntKind.wrap .i64 (x1.2.1 +
  x1.2.2.1)<=x0.2.1)) else none else none else none else none else none else none
noncomputable def ref21_Apart (x0:ByteArray×Int×Int×Int×Int×Int×Int) (x1:ByteArray×Int×Int×Int×Int×Int×Int):Option Bool:=ref21_Apart_b lpK jnK x0 x1
noncomputable def c97:Ctr:=⟨[T27,T27],[],[],.one .bool,fun x _ _=>ref21_Apart x.1 x.2.1⟩
theorem e97 (lp:Lp) (jn:Jn):∀(x:TsS c97.as) (F:TsF c97.fs) (y:TsS c97.cs),ref21_Apart_b lp jn x.1 x.2.1=runC lp jn (ctxOf prog shs inls its [] [(113,r113),(39,r39),(69,r69),(68,r68),(67,r67)]) hints 4 97 f97 c97 x F y:=fun x F y=>by kernel_rfl
theorem l97:(ctxOf prog shs inls its [] [(113,r113),(39,r39),(69,r69),(68,r68),(67,r67)]).ok:=q113
theorem ok97:c97.ok prog 97:=Ctr.of_den l97 hmix (hl:=hints) (d:=4) func97 rfl (by decide) (e97 lpK jnK)
noncomputable def ref21_items_b (lp:Lp) (_:Jn) (ref21_alone:(ByteArray×Int×Int×Int×Int×Int×Int)->(Int)->Option (Bool)) (ref21_Apart:(ByteArray×Int×Int×Int×Int×Int×Int)->(ByteArray×Int×Int×Int×Int×Int×Int)->Option (Bool)) (x0:ByteArray×Int×Int×Int×Int×(List Int)×Int×Int×Int×Int×Int×(List (ByteArray×Int×Int×Int×Int×Int×Int))×List (ByteArray×Int×Int)):Option Bool :=
 bif decide ((↑(List.length x0.2.2.2.2.2.2.2.2.2.2.2.1):Int)>(40:Int)) then some false else lp (Int×PUnit) Bool (fun (again:Int×PUnit->Option Bool) (x :
  Int×PUnit) =>
 let v5:Bool:=inB x.1 (List.length x0.2.2.2.2.2.2.2.2.2.2.2.1);
 let v6:ByteArray×Int×Int×Int×Int×Int×Int:=List.getD x0.2.2.2.2.2.2.2.2.2.2.2.1 (Int.toNat x.1) ({ data:={ toList:=[] } },(0:Int),(0 :
  Int),(0:Int),(0:Int),(0:Int),(0:Int));
 let v7:List UInt8:=ByteArray.toList v6.1;bif decide (x.1<(↑(List.length x0.2.2.2.2.2.2.2.2.2.2.2.1):Int)) then bif v5 then obind (ref21_alone v6
  x0.2.2.2.2.1) fun (t:Bool)=>bif !t then some false else lp (Int×PUnit) Bool (fun (again_1:Int×PUnit->Option Bool) (x_1:Int×PUnit) =>
 let v11:Bool:=inB x_1.1 (List.length x0.2.2.2.2.2.2.2.2.2.2.2.1);
 let v12:ByteArray×Int×Int×Int×Int×Int×Int:=List.getD x0.2.2.2.2.2.2.2.2.2.2.2.1 (Int.toNat x_1.1) ({ data:={ toList:=[] } },(0:Int),(0 :
  Int),(0:Int),(0:Int),(0:Int),(0:Int));
 let v13:Bool:=List.beq (ByteArray.toList v12.1) v7;
 let v14:Bool:=!v13;
 let v15:Bool:=!v14;
 let v16:Bool:=v15||v14;bif decide (x_1.1<x.1) then bif v11 then bif v5 then bif v16 then bif v16&&(v16&&(v15||v11)) then bif v16 then bif v16 then bif v16&&(v16 &&
  (v15||v5)) then bif v16 then bif v16&&v16 then obind (bif v14 then ref21_Apart v12 v6 else some false) fun (t:Bool)=>bif v16 then bif v13||v14 then bif bif v13 then true else
  !t then some false else again_1 (IntKind.wrap .i64 (x_1.1+(1:Int)),PUnit.unit) else none else none else none else none else none else none else none else none else none
  else none else none else again (IntKind.wrap .i64 (x.1+(1:Int)),PUnit.unit)) ((0:Int),PUnit.unit) else none else some true) ((0:Int),PUnit.unit)
noncomputable def ref21_items (x0:ByteArray×Int×Int×Int×Int×(List Int)×Int×Int×Int×Int×Int×(List (ByteArray×Int×Int×Int×Int×Int×Int))×List (ByteArray×Int×Int)):Option Bool:=ref21_items_b lpK jnK ref21_alone ref21_Apart x0
noncomputable def c59:Ctr:=⟨[T35],[],[],.one .bool,fun x _ _=>ref21_items x.1⟩
theorem e59 (lp:Lp) (jn:Jn) (ref21_alone:(ByteArray×Int×Int×Int×Int×Int×Int)->(Int)->Option (Bool)) (ref21_Apart:(ByteArray×Int×Int×Int×Int×Int×Int)->(ByteArray×Int×Int×Int×Int×Int×Int)->Option (Bool)):∀(x:TsS c59.as) (F:TsF c59.fs) (y:TsS c59.cs),ref21_items_b lp jn ref21_alone ref21_Apart x.1=runC lp jn (ctxOf prog shs inls its [(97,⟨[T27,T27],[],[],.one .bool,fun x _ _=>ref21_Apart x.1 x.2.1⟩),(96,⟨[T27,i64],[],[],.one .bool,fun x _ _=>ref21_alone x.1 x.2.1⟩)] [(113,r113),(39,r39),(69,r69),(68,r68),(67,r67)]) hints 4 59 f59 c59 x F y:=fun x F y=>by kernel_rfl
theorem l59:(ctxOf prog shs inls its [(97,c97),(96,c96)] [(113,r113),(39,r39),(69,r69),(68,r68),(67,r67)]).ok:=ctxOf_cons (ctxOf_cons (q113) (by kernel_rfl) ok96) (by kernel_rfl) ok97
theorem ok59:c59.ok prog 59:=Ctr.of_den l59 hmix (hl:=hints) (d:=4) func59 rfl (by decide) (e59 lpK jnK ref21_alone ref21_Apart)
noncomputable def ref21_Bricks_b (lp:Lp) (_:Jn) (ref01_IsName:(ByteArray)->Option (Bool)) (ref21_between:(Int)->(Int)->(Int)->Option (Bool)) (x0:List (ByteArray×Int×Int)):Option Bool :=
 bif decide ((↑(List.length x0):Int)>(8:Int)) then some false else lp (Int×Int×PUnit) Bool (fun (again:Int×Int×PUnit->Option Bool) (x:Int×Int×PUnit) =>
 let v5:Bool:=inB x.2.1 (List.length x0);
 let v6:ByteArray×Int×Int:=List.getD x0 (Int.toNat x.2.1) ({ data:={ toList:=[] } },(0:Int),(0:Int));bif decide (x.2.1<(↑(List.length x0):Int)) then bif v5
  then obind (ref01_IsName v6.1) fun (t:Bool) =>
 let v8:Bool:=!t;
 let v9:Bool:=!v8;
 let v10:Bool:=!v9;
 let v11:Bool:=v10||v9;bif v11&&(v11&&(v10||v5)) then bif v11 then bif v11 then bif v11 then obind (bif v9 then ref21_between v6.2.1 (1:Int) (1048576:Int) else some
  false) fun (t:Bool) =>
 let v13:Bool:=bif v8 then true else !t;
 let v14:Bool:=!v13;
 let v15:Bool:=!v14;
 let v16:Bool:=v15||v14;bif v11 then bif v8||v9 then bif v16&&(v16&&(v15||v5)) then bif v16 then bif v16 then bif v16 then obind (bif v14 then ref21_between v6.2.2 (0 :
  Int) (60:Int) else some false) fun (t:Bool)=>bif v16 then bif v13||v14 then bif bif v13 then true else !t then some false else bif v5 then lp (Int×PUnit) Bool (fun (again_1 :
  Int×PUnit->Option Bool) (x_1:Int×PUnit)=>bif decide (x_1.1<x.2.1) then bif inB x_1.1 (List.length x0) then bif v5 then bif List.beq (ByteArray.toList (List.getD x0
  (Int.toNat x_1.1) ({ data:={ toList:=[] } },(0:Int),(0:Int))).1) (ByteArray.toList v6.1) then some false else again_1 (IntKind.wrap .i64 (x_1.1+(1:Int)),
  PUnit.unit) else none else none else again (IntKind.wrap .i64 (x.1+v6.2.2),IntKind.wrap .i64 (x.2.1+(1:Int)),PUnit.unit)) ((0:Int),PUnit.unit) else
  none else none else none else none else none else none else none else none else none else none else none else none else none else none else some (decide (x.1<=(60:Int)))) ((0 :
  Int),(0:Int),PUnit.unit)
noncomputable def ref21_Bricks (x0:List (ByteArray×Int×Int)):Option Bool:=ref21_Bricks_b lpK jnK ref01_IsName ref21_between x0
noncomputable def c60:Ctr:=⟨[(.sl T86)],[],[],.one .bool,fun x _ _=>ref21_Bricks x.1⟩
theorem e60 (lp:Lp) (jn:Jn) (ref01_IsName:(ByteArray)->Option (Bool)) (ref21_between:(Int)->(Int)->(Int)->Option (Bool)):∀(x:TsS c60.as) (F:TsF c60.fs) (y:TsS c60.cs),ref21_Bricks_b lp jn ref01_IsName ref21_between x.1=runC lp jn (ctxOf prog shs inls its [(58,⟨[i64,i64,i64],[],[],.one .bool,fun x _ _=>ref21_between x.1 x.2.1 x.2.2.1⟩),(20,⟨[.str],[],[],.one .bool,fun x _ _=>ref01_IsName x.1⟩)] [(113,r113),(39,r39),(69,r69),(68,r68),(67,r67)]) hints 4 60 f60 c60 x F y:=fun x F y=>by kernel_rfl
theorem l60:(ctxOf prog shs inls its [(58,c58),(20,c20)] [(113,r113),(39,r39),(69,r69),(68,r68),(67,r67)]).ok:=ctxOf_cons (ctxOf_cons (q113) (by kernel_rfl) ok20) (by kernel_rfl) ok58
theorem ok60:c60.ok prog 60:=Ctr.of_den l60 hmix (hl:=hints) (d:=4) func60 rfl (by decide) (e60 lpK jnK ref01_IsName ref21_between)
noncomputable def ref21_Valid_b (lp:Lp) (_:Jn) (ref01_IsName:(ByteArray)->Option (Bool)) (ref21_between:(Int)->(Int)->(Int)->Option (Bool)) (ref21_items:(ByteArray×Int×Int×Int×Int×(List Int)×Int×Int×Int×Int×Int×(List (ByteArray×Int×Int×Int×Int×Int×Int))×List (ByteArray×Int×Int))->Option (Bool)) (ref21_Bricks:(List (ByteArray×Int×Int))->Option (Bool)) (x0:ByteArray×Int×Int×Int×Int×(List Int)×Int×Int×Int×Int×Int×(List (ByteArray×Int×Int×Int×Int×Int×Int))×List (ByteArray×Int×Int)):Option Bool :=
 obind (ref01_IsName x0.1) fun (t:Bool) =>
 let v4:Bool:=!t;
 let v5:Bool:=!v4;
 let v6:Bool:=!v5||v5;bif v6 then bif v6 then obind (bif v5 then ref21_between x0.2.1 (0:Int) (1048576:Int) else some false) fun (t:Bool) =>
 let v8:Bool:=bif v4 then true else !t;
 let v9:Bool:=!v8;
 let v10:Bool:=!v9||v9;bif v6 then bif v4||v5 then bif v10 then bif v10 then bif v10&&v10 then obind (bif v9 then ref21_between x0.2.2.1 (0:Int) x0.2.2.2.1 else
  some false) fun (t:Bool) =>
 let v12:Bool:=bif v8 then true else !t;
 let v13:Bool:=!v12;
 let v14:Bool:=!v13||v13;bif v10 then bif v8||v9 then bif v14 then bif v14 then obind (bif v13 then ref21_between x0.2.2.2.1 (0:Int) (1048576:Int) else some false) fun
  (t:Bool) =>
 let v16:Bool:=bif v12 then true else !t;
 let v17:Bool:=!v16;
 let v18:Bool:=!v17||v17;bif v14 then bif v12||v13 then bif v18 then bif v18 then obind (bif v17 then ref21_between x0.2.2.2.2.1 (1000:Int) (1048576:Int) else some
  false) fun (t:Bool) =>
 let v20:Bool:=bif v16 then true else !t;
 let v21:Bool:=!v20;
 let v22:Bool:=!v21;
 let v23:Bool:=v22||v21;bif v18 then bif v16||v17 then bif v23 then bif v23&&(v22||true) then bif v23 then bif v20||v21 then bif bif v20 then true else !decide (Int.tmod
  x0.2.2.2.2.1 (1000:Int)=(0:Int)) then some false else obind (ref21_between (↑(List.length x0.2.2.2.2.2.1):Int) (2:Int) (10:Int)) fun (t:Bool) =>
 let v25:Bool:=!t;
 let v26:Bool:=!v25;
 let v27:Bool:=!v26||v26;bif v27 then bif v27 then obind (bif v26 then ref21_between x0.2.2.2.2.2.2.1 (0:Int) (1048576:Int) else some false) fun (t:Bool) =>
 let v29:Bool:=bif v25 then true else !t;
 let v30:Bool:=!v29;
 let v31:Bool:=!v30||v30;bif v27 then bif v25||v26 then bif v31 then bif v31 then obind (bif v30 then ref21_between x0.2.2.2.2.2.2.2.1 (0:Int) (1048576:Int)
  else some false) fun (t:Bool) =>
 let v33:Bool:=bif v29 then true else !t;
 let v34:Bool:=!v33;
 let v35:Bool:=!v34||v34;bif v31 then bif v29||v30 then bif v35 then bif v35 then obind (bif v34 then ref21_between x0.2.2.2.2.2.2.2.2.1 (1:Int) (2:Int) else
  some false) fun (t:Bool) =>
 let v37:Bool:=bif v33 then true else !t;
 let v38:Bool:=!v37;
 let v39:Bool:=!v38||v38;bif v35 then bif v33||v34 then bif v39 then bif v39 then obind (bif v38 then ref21_between x0.2.2.2.2.2.2.2.2.2.1 (1:Int) (67108864
  : Int) else some false) fun (t:Bool) =>
 let v41:Bool:=bif v37 then true else !t;
 let v42:Bool:=!v41;
 let v43:Bool:=!v42||v42;bif v39 then bif v37||v38 then bif v43 then bif v43 then obind (bif v42 then ref21_between x0.2.2.2.2.2.2.2.2.2.2.1 (0:Int)
  (67108864:Int) else some false) fun (t:Bool)=>bif v43 then bif v41||v42 then bif bif v41 then true else !t then some false else lp (Int×PUnit) Bool (fun (again:Int×PUnit ->
  Option Bool) (x:Int×PUnit) =>
 let v47:Bool:=decide (x.1>(0:Int));
 let v48:Bool:=inB x.1 (List.length x0.2.2.2.2.2.1);bif decide (x.1<(↑(List.length x0.2.2.2.2.2.1):Int)) then bif v48 then obind (ref21_between
  (List.getD x0.2.2.2.2.2.1 (Int.toNat x.1) (0:Int)) (0:Int) x0.2.2.2.2.1) fun (t:Bool) =>
 let v50:Bool:=!t;
 let v51:Bool:=!v50;
 let v52:Bool:=!v51;
 let v53:Bool:=v51&&v47;
 let v54:Bool:=!v53;
 let v55:Bool:=v52||v51;
 let v56:Bool:=v54||v53;bif v55 then bif v55 then bif v56 then bif v56&&(v56&&(v54||v48)) then bif v56 then bif v56 then bif v56 then bif v56&&(v56&&(v54||inB
  (IntKind.wrap .i64 (x.1 - (1:Int))) (List.length x0.2.2.2.2.2.1))) then bif v56 then bif v56&&v56 then bif (v52||v55)&&(v52||(!v47||(v52||v53))) then
  bif v50||v51 then bif bif v50 then true else bif v47 then decide (List.getD x0.2.2.2.2.2.1 (Int.toNat x.1) (0:Int)<=List.getD x0.2.2.2.2.2.1 (Int.toNat
  (IntKind.wrap .i64 (x.1 - (1:Int)))) (0:Int)) else false then some false else again (IntKind.wrap .i64 (x.1+(1:Int)),PUnit.unit) else none else none else none
  else none else none else none else none else none else none else none else none else none else none else obind (ref21_items x0) fun (t:Bool) =>
 let v50:Bool:=!t||t;bif v50 then bif v50 then obind (bif t then ref21_Bricks x0.2.2.2.2.2.2.2.2.2.2.2.2 else some false) fun (t_1:Bool)=>bif v50 then
  some (bif t then t_1 else false) else none else none else none) ((0:Int),PUnit.unit) else none else none else none else none else none else none else none else none else none else
  none else none else none else none else none else none else none else none else none else none else none else none else none else none else none else none else none else none else none
  else none else none else none else none else none else none else none else none else none else none else none else none else none
noncomputable def ref21_Valid (x0:ByteArray×Int×Int×Int×Int×(List Int)×Int×Int×Int×Int×Int×(List (ByteArray×Int×Int×Int×Int×Int×Int))×List (ByteArray×Int×Int)):Option Bool:=ref21_Valid_b lpK jnK ref01_IsName ref21_between ref21_items ref21_Bricks x0
noncomputable def c22:Ctr:=⟨[T35],[],[],.one .bool,fun x _ _=>ref21_Valid x.1⟩
theorem e22 (lp:Lp) (jn:Jn) (ref01_IsName:(ByteArray)->Option (Bool)) (ref21_between:(Int)->(Int)->(Int)->Option (Bool)) (ref21_items:(ByteArray×Int×Int×Int×Int×(List Int)×Int×Int×Int×Int×Int×(List (ByteArray×Int×Int×Int×Int×Int×Int))×List (ByteArray×Int×Int))->Option (Bool)) (ref21_Bricks:(List (ByteArray×Int×Int))->Option (Bool)):∀(x:TsS c22.as) (F:TsF c22.fs) (y:TsS c22.cs),ref21_Valid_b lp jn ref01_IsName ref21_between ref21_items ref21_Bricks x.1=runC lp jn (ctxOf prog shs inls its [(60,⟨[(.sl T86)],[],[],.one .bool,fun x _ _=>ref21_Bricks x.1⟩),(59,⟨[T35],[],[],.one .bool,fun x _ _=>ref21_items x.1⟩),(58,⟨[i64,i64,i64],[],[],.one .bool,fun x _ _=>ref21_between x.1 x.2.1 x.2.2.1⟩),(20,⟨[.str],[],[],.one .bool,fun x _ _=>ref01_IsName x.1⟩)] [(113,r113),(39,r39),(69,r69),(68,r68),(67,r67)]) hints 4 22 f22 c22 x F y:=fun x F y=>by kernel_rfl
theorem l22:(ctxOf prog shs inls its [(60,c60),(59,c59),(58,c58),(20,c20)] [(113,r113),(39,r39),(69,r69),(68,r68),(67,r67)]).ok:=ctxOf_cons (ctxOf_cons (ctxOf_cons (ctxOf_cons (q113) (by kernel_rfl) ok20) (by kernel_rfl) ok58) (by kernel_rfl) ok59) (by kernel_rfl) ok60
theorem ok22:c22.ok prog 22:=Ctr.of_den l22 hmix (hl:=hints) (d:=4) func22 rfl (by decide) (e22 lpK jnK ref01_IsName ref21_between ref21_items ref21_Bricks)
noncomputable def ref30_FindSet_b (lp:Lp) (_:Jn) (x0:ByteArray×Int×(List (ByteArray×Int×Int×Int×Int×(List Int)×Int×Int×Int×Int×Int×(List (ByteArray×Int×Int×Int×Int×Int×Int))×List (ByteArray×Int×Int)))×List (ByteArray×Int×Int×Int)) (x1:ByteArray):Option Int :=
 lp (Int×PUnit) Int (fun (again:Int×PUnit->Option Int) (x:Int×PUnit)=>bif decide (x.1<(↑(List.length x0.2.2.1):Int)) then bif inB x.1 (List.length x0.2.2.1)
  then bif List.beq (ByteArray.toList (List.getD x0.2.2.1 (Int.toNat x.1) ({ data:={ toList:=[] } },(0:Int),(0:Int),(0:Int),(0:Int),[],(0:Int),(0:Int),(0 :
  Int),(0:Int),(0:Int),[],[])).1) (ByteArray.toList x1) then some x.1 else again (IntKind.wrap .i64 (x.1+(1:Int)),PUnit.unit) else none else some (-1:Int)) ((0
  : Int),PUnit.unit)
noncomputable def ref30_FindSet (x0:ByteArray×Int×(List (ByteArray×Int×Int×Int×Int×(List Int)×Int×Int×Int×Int×Int×(List (ByteArray×Int×Int×Int×Int×Int×Int))×List (ByteArray×Int×Int)))×List (ByteArray×Int×Int×Int)) (x1:ByteArray):Option Int:=ref30_FindSet_b lpK jnK x0 x1
noncomputable def c23:Ctr:=⟨[T25,.str],[],[],.one i64,fun x _ _=>ref30_FindSet x.1 x.2.1⟩
theorem e23 (lp:Lp) (jn:Jn):∀(x:TsS c23.as) (F:TsF c23.fs) (y:TsS c23.cs),ref30_FindSet_b lp jn x.1 x.2.1=runC lp jn (ctxOf prog shs inls its [] [(113,r113),(39,r39),(69,r69),(68,r68),(67,r67)]) hints 4 23 f23 c23 x F y:=fun x F y=>by kernel_rfl
theorem l23:(ctxOf prog shs inls its [] [(113,r113),(39,r39),(69,r69),(68,r68),(67,r67)]).ok:=q113
theorem ok23:c23.ok prog 23:=Ctr.of_den l23 hmix (hl:=hints) (d:=4) func23 rfl (by decide) (e23 lpK jnK)
noncomputable def ref30_Valid_b (lp:Lp) (_:Jn) (ref01_IsName:(ByteArray)->Option (Bool)) (ref19_Valid:(List (ByteArray×Int×Int×Int))->Option (Bool)) (ref21_Valid:(ByteArray×Int×Int×Int×Int×(List Int)×Int×Int×Int×Int×Int×(List (ByteArray×Int×Int×Int×Int×Int×Int))×List (ByteArray×Int×Int))->Option (Bool)) (ref30_FindSet:(ByteArray×Int×(List (ByteArray×Int×Int×Int×Int×(List Int)×Int×Int×Int×Int×Int×(List (ByteArray×Int×Int×Int×Int×Int×Int))×List (ByteArray×Int×Int)))×List (ByteArray×Int×Int×Int))->(ByteArray)->Option (Int)) (x0:ByteArray×Int×(List (ByteArray×Int×Int×Int×Int×(List Int)×Int×Int×Int×Int×Int×(List (ByteArray×Int×Int×Int×Int×Int×Int))×List (ByteArray×Int×Int)))×List (ByteArray×Int×Int×Int)):Option Bool :=
 
 let v3:Bool:=decide (x0.2.1<(1:Int));
 let v4:Bool:=decide (x0.2.1>(1048576:Int));
 let v5:Bool:=decide ((↑(List.length x0.2.2.1):Int)>(60:Int));obind (ref01_IsName x0.1) fun (t:Bool) =>
 let v7:Bool:=!t;
 let v8:Bool:=!v7;
 let v9:Bool:=bif v7 then true else v3;
 let v10:Bool:=!v9;
 let v11:Bool:=!v8||v8;
 let v12:Bool:=bif v9 then true else v4;
 let v13:Bool:=!v12;
 let v14:Bool:=bif v12 then true else v5;
 let v15:Bool:=!v14;
 let v16:Bool:=!v10||v10;
 let v17:Bool:=!v13||v13;
 let v18:Bool:=!v15||v15;bif v11 then bif v11 then bif v7||v8 then bif v16 then bif v16 then bif v9||v10 then bif v17 then bif v17 then bif v17 then bif v12||v13 then bif v18
  then bif v18 then obind (bif v15 then ref19_Valid x0.2.2.2 else some false) fun (t:Bool)=>bif v18 then bif v14||v15 then bif bif v14 then true else !t then some false else
  lp (Int×PUnit) Bool (fun (again:Int×PUnit->Option Bool) (x:Int×PUnit) =>
 let v22:Bool:=inB x.1 (List.length x0.2.2.1);
 let v23:ByteArray×Int×Int×Int×Int×List Int×Int×Int×Int×Int×Int×List (ByteArray×Int×Int×Int×Int×Int×Int)×List (ByteArray×Int×Int):=List.getD
  x0.2.2.1 (Int.toNat x.1) ({ data:={ toList:=[] } },(0:Int),(0:Int),(0:Int),(0:Int),[],(0:Int),(0:Int),(0:Int),(0:Int),(0:Int),[],[]);
 let v24:Bool:=decide (v23.2.2.2.1>x0.2.1);bif decide (x.1<(↑(List.length x0.2.2.1):Int)) then bif v22 then obind (ref21_Valid v23) fun (t:Bool) =>
 let v26:Bool:=!t;
 let v27:Bool:=!v26;
 let v28:Bool:=!v27;
 let v29:Bool:=bif v26 then true else v24;
 let v30:Bool:=!v29;
 let v31:Bool:=v28||v27;
 let v32:Bool:=!v30;
 let v33:Bool:=v32||v30;
 let v34:Bool:=v33&&v33;bif v31 then bif v31&&(v31&&(v28||v22)) then bif v31 then bif v31 then bif v31 then bif v31&&v31 then bif v26||v27 then bif v33 then bif v33 &&
  (v33&&(v32||v22)) then bif v33 then bif v33 then bif v34 then obind (bif v30 then ref30_FindSet x0 v23.1 else some (0:Int)) fun (t:Int)=>bif v34 then bif v29||v30 then bif
  bif v29 then true else !decide (t=x.1) then some false else again (IntKind.wrap .i64 (x.1+(1:Int)),PUnit.unit) else none else none else none else none else none else
  none else none else none else none else none else none else none else none else none else none else some true) ((0:Int),PUnit.unit) else none else none else none else none else none
  else none else none else none else none else none else none else none else none else none
noncomputable def ref30_Valid (x0:ByteArray×Int×(List (ByteArray×Int×Int×Int×Int×(List Int)×Int×Int×Int×Int×Int×(List (ByteArray×Int×Int×Int×Int×Int×Int))×List (ByteArray×Int×Int)))×List (ByteArray×Int×Int×Int)):Option Bool:=ref30_Valid_b lpK jnK ref01_IsName ref19_Valid ref21_Valid ref30_FindSet x0
noncomputable def c6:Ctr:=⟨[T25],[],[],.one .bool,fun x _ _=>ref30_Valid x.1⟩
theorem e6 (lp:Lp) (jn:Jn) (ref01_IsName:(ByteArray)->Option (Bool)) (ref19_Valid:(List (ByteArray×Int×Int×Int))->Option (Bool)) (ref21_Valid:(ByteArray×Int×Int×Int×Int×(List Int)×Int×Int×Int×Int×Int×(List (ByteArray×Int×Int×Int×Int×Int×Int))×List (ByteArray×Int×Int))->Option (Bool)) (ref30_FindSet:(ByteArray×Int×(List (ByteArray×Int×Int×Int×Int×(List Int)×Int×Int×Int×Int×Int×(List (ByteArray×Int×Int×Int×Int×Int×Int))×List (ByteArray×Int×Int)))×List (ByteArray×Int×Int×Int))->(ByteArray)->Option (Int)):∀(x:TsS c6.as) (F:TsF c6.fs) (y:TsS c6.cs),ref30_Valid_b lp jn ref01_IsName ref19_Valid ref21_Valid ref30_FindSet x.1=runC lp jn (ctxOf prog shs inls its [(23,⟨[T25,.str],[],[],.one i64,fun x _ _=>ref30_FindSet x.1 x.2.1⟩),(22,⟨[T35],[],[],.one .bool,fun x _ _=>ref21_Valid x.1⟩),(21,⟨[(.sl T68)],[],[],.one .bool,fun x _ _=>ref19_Valid x.1⟩),(20,⟨[.str],[],[],.one .bool,fun x _ _=>ref01_IsName x.1⟩)] [(113,r113),(39,r39),(69,r69),(68,r68),(67,r67)]) hints 4 6 f6 c6 x F y:=fun x F y=>by kernel_rfl
theorem l6:(ctxOf prog shs inls its [(23,c23),(22,c22),(21,c21),(20,c20)] [(113,r113),(39,r39),(69,r69),(68,r68),(67,r67)]).ok:=ctxOf_cons (ctxOf_cons (ctxOf_cons (ctxOf_cons (q113) (by kernel_rfl) ok20) (by kernel_rfl) ok21) (by kernel_rfl) ok22) (by kernel_rfl) ok23
theorem ok6:c6.ok prog 6:=Ctr.of_den l6 hmix (hl:=hints) (d:=4) func6 rfl (by decide) (e6 lpK jnK ref01_IsName ref19_Valid ref21_Valid ref30_FindSet)
noncomputable def batten_Put_1_b (_:Lp) (_:Jn) (x0:ByteArray×Int×Int×Int×Int×Int×Int) (y0:ByteArray×Int×Int×Int×Int×Int×Int):Option Bool :=
 some (List.beq (ByteArray.toList x0.1) (ByteArray.toList y0.1))
noncomputable def batten_Put_1 (x0:ByteArray×Int×Int×Int×Int×Int×Int) (y0:ByteArray×Int×Int×Int×Int×Int×Int):Option Bool:=batten_Put_1_b lpK jnK x0 y0
noncomputable def c26:Ctr:=⟨[T27],[],[T27],.one .bool,fun x _ y=>batten_Put_1 x.1 y.1⟩
theorem e26 (lp:Lp) (jn:Jn):∀(x:TsS c26.as) (F:TsF c26.fs) (y:TsS c26.cs),batten_Put_1_b lp jn x.1 y.1=runC lp jn (ctxOf prog shs inls its [] [(113,r113),(39,r39),(69,r69),(68,r68),(67,r67)]) hints 4 26 f26 c26 x F y:=fun x F y=>by kernel_rfl
theorem l26:(ctxOf prog shs inls its [] [(113,r113),(39,r39),(69,r69),(68,r68),(67,r67)]).ok:=q113
theorem ok26:c26.ok prog 26:=Ctr.of_den l26 hmix (hl:=hints) (d:=4) func26 rfl (by decide) (e26 lpK jnK)
noncomputable def batten_Put_2_b (_:Lp) (_:Jn) (batten_apart:(ByteArray×Int×Int×Int×Int×Int×Int)->(ByteArray×Int×Int×Int×Int×Int×Int)->Option (Bool)) (x0:ByteArray×Int×Int×Int×Int×Int×Int) (y0:ByteArray×Int×Int×Int×Int×Int×Int):Option Bool :=
 obind (batten_apart y0 x0) fun (t:Bool)=>some !t
noncomputable def batten_Put_2 (x0:ByteArray×Int×Int×Int×Int×Int×Int) (y0:ByteArray×Int×Int×Int×Int×Int×Int):Option Bool:=batten_Put_2_b lpK jnK batten_apart x0 y0
noncomputable def c29:Ctr:=⟨[T27],[],[T27],.one .bool,fun x _ y=>batten_Put_2 x.1 y.1⟩
theorem e29 (lp:Lp) (jn:Jn) (batten_apart:(ByteArray×Int×Int×Int×Int×Int×Int)->(ByteArray×Int×Int×Int×Int×Int×Int)->Option (Bool)):∀(x:TsS c29.as) (F:TsF c29.fs) (y:TsS c29.cs),batten_Put_2_b lp jn batten_apart x.1 y.1=runC lp jn (ctxOf prog shs inls its [(30,⟨[T27,T27],[],[],.one .bool,fun x _ _=>batten_apart x.1 x.2.1⟩)] [(113,r113),(39,r39),(69,r69),(68,r68),(67,r67)]) hints 4 29 f29 c29 x F y:=fun x F y=>by kernel_rfl
theorem l29:(ctxOf prog shs inls its [(30,c30)] [(113,r113),(39,r39),(69,r69),(68,r68),(67,r67)]).ok:=ctxOf_cons (q113) (by kernel_rfl) ok30
theorem ok29:c29.ok prog 29:=Ctr.of_den l29 hmix (hl:=hints) (d:=4) func29 rfl (by decide) (e29 lpK jnK batten_apart)
noncomputable def batten_Put_b (_:Lp) (_:Jn) (slices_ContainsFunc_25:(List (ByteArray×Int×Int×Int×Int×Int×Int))->((((ByteArray×Int×Int×Int×Int×Int×Int)×Unit)->Option Bool))->Option (Bool)) (batten_alone:(ByteArray×Int×Int×Int×Int×Int×Int)->Option (Bool)) (batten_inside:(ByteArray×Int×Int×Int×Int×Int×Int)->(Int)->Option (Bool)) (batten_Valid:(ByteArray×Int×Int×Int×Int×(List Int)×Int×Int×Int×Int×Int×(List (ByteArray×Int×Int×Int×Int×Int×Int))×List (ByteArray×Int×Int))->Option (Bool)) (batten_Put_1:(ByteArray×Int×Int×Int×Int×Int×Int)->(ByteArray×Int×Int×Int×Int×Int×Int)->Option (Bool)) (batten_Put_2:(ByteArray×Int×Int×Int×Int×Int×Int)->(ByteArray×Int×Int×Int×Int×Int×Int)->Option (Bool)) (slices_Clone_67:(List Int)->Option (List Int)) (slices_Clone_68:(List (ByteArray×Int×Int×Int×Int×Int×Int))->Option (List (ByteArray×Int×Int×Int×Int×Int×Int))) (slices_Clone_69:(List (ByteArray×Int×Int))->Option (List (ByteArray×Int×Int))) (x0:ByteArray×Int×Int×Int×Int×(List Int)×Int×Int×Int×Int×Int×(List (ByteArray×Int×Int×Int×Int×Int×Int))×List (ByteArray×Int×Int)) (x1:ByteArray×Int×Int×Int×Int×Int×Int):Option ((ByteArray×Int×Int×Int×Int×(List Int)×Int×Int×Int×Int×Int×(List (ByteArray×Int×Int×Int×Int×Int×Int))×List (ByteArray×Int×Int))×Int×Unit) :=
 
 let v4:List (ByteArray×Int×Int×Int×Int×Int×Int):=[];obind (batten_Valid x0) fun (t:Bool) =>
 let v6:ByteArray×Int×Int×Int×Int×List Int×Int×Int×Int×Int×Int×List (ByteArray×Int×Int×Int×Int×Int×Int)×List (ByteArray×Int×Int):=({ data:=#[]
  },(0:Int),(0:Int),(0:Int),(0:Int),[],(0:Int),(0:Int),(0:Int),(0:Int),(0:Int),v4,[]);bif !t then some (v6,(1:Int),PUnit.unit) else obind
  (slices_ContainsFunc_25 x0.2.2.2.2.2.2.2.2.2.2.2.1 fun (x:(ByteArray×Int×Int×Int×Int×Int×Int)×PUnit)=>batten_Put_1 x.1 x1) fun (t:Bool) =>
  bif t then some (v6,(15:Int),PUnit.unit) else bif decide ((↑(List.length x0.2.2.2.2.2.2.2.2.2.2.2.1):Int)=(40:Int)) then some (v6,(4:Int),
  PUnit.unit) else obind (batten_alone x1) fun (t:Bool) =>
 let v9:Bool:=!t;
 let v10:Bool:=!v9;
 let v11:Bool:=!v10||v10;bif v11 then bif v11&&v11 then obind (bif v10 then batten_inside x1 x0.2.2.2.2.1 else some false) fun (t:Bool)=>bif v11 then bif v9||v10
  then bif bif v9 then true else !t then some (v6,(1:Int),PUnit.unit) else obind (slices_ContainsFunc_25 x0.2.2.2.2.2.2.2.2.2.2.2.1 fun (x:(ByteArray×Int ×
  Int×Int×Int×Int×Int)×PUnit)=>batten_Put_2 x.1 x1) fun (t:Bool)=>bif t then some (v6,(22:Int),PUnit.unit) else obind (slices_Clone_67 x0.2.2.2.2.2.1)
  fun (t:List Int)=>obind (slices_Clone_68 x0.2.2.2.2.2.2.2.2.2.2.2.1) fun (t_1:List (ByteArray×Int×Int×Int×Int×Int×Int))=>obind
  (slices_Clone_69 x0.2.2.2.2.2.2.2.2.2.2.2.2) fun (t_2:List (ByteArray×Int×Int))=>bif fitB (List.length t_1+(1:Nat)) (64:Nat) then some ((x0.1,
  x0.2.1,x0.2.2.1,x0.2.2.2.1,x0.2.2.2.2.1,t,x0.2.2.2.2.2.2.1,x0.2.2.2.2.2.2.2.1,x0.2.2.2.2.2.2.2.2.1,
  x0.2.2.2.2.2.2.2.2.2.1,x0.2.2.2.2.2.2.2.2.2.2.1,t_1++x1 ::v4,t_2),(0:Int),PUnit.unit) else none else none else none else none else
  none
noncomputable def batten_Put (x0:ByteArray×Int×Int×Int×Int×(List Int)×Int×Int×Int×Int×Int×(List (ByteArray×Int×Int×Int×Int×Int×Int))×List (ByteArray×Int×Int)) (x1:ByteArray×Int×Int×Int×Int×Int×Int):Option ((ByteArray×Int×Int×Int×Int×(List Int)×Int×Int×Int×Int×Int×(List (ByteArray×Int×Int×Int×Int×Int×Int))×List (ByteArray×Int×Int))×Int×Unit):=batten_Put_b lpK jnK slices_ContainsFunc_25 batten_alone batten_inside batten_Valid batten_Put_1 batten_Put_2 slices_Clone_67 slices_Clone_68 slices_Clone_69 x0 x1
noncomputable def c7:Ctr:=⟨[T35,T27],[],[],.tup [T35,i64],fun x _ _=>batten_Put x.1 x.2.1⟩
theorem e7 (lp:Lp) (jn:Jn) (slices_ContainsFunc_25:(List (ByteArray×Int×Int×Int×Int×Int×Int))->((((ByteArray×Int×Int×Int×Int×Int×Int)×Unit)->Option Bool))->Option (Bool)) (batten_alone:(ByteArray×Int×Int×Int×Int×Int×Int)->Option (Bool)) (batten_inside:(ByteArray×Int×Int×Int×Int×Int×Int)->(Int)->Option (Bool)) (batten_Valid:(ByteArray×Int×Int×Int×Int×(List Int)×Int×Int×Int×Int×Int×(List (ByteArray×Int×Int×Int×Int×Int×Int))×List (ByteArray×Int×Int))->Option (Bool)) (batten_Put_1:(ByteArray×Int×Int×Int×Int×Int×Int)->(ByteArray×Int×Int×Int×Int×Int×Int)->Option (Bool)) (batten_Put_2:(ByteArray×Int×Int×Int×Int×Int×Int)->(ByteArray×Int×Int×Int×Int×Int×Int)->Option (Bool)) (slices_Clone_67:(List Int)->Option (List Int)) (slices_Clone_68:(List (ByteArray×Int×Int×Int×Int×Int×Int))->Option (List (ByteArray×Int×Int×Int×Int×Int×Int))) (slices_Clone_69:(List (ByteArray×Int×Int))->Option (List (ByteArray×Int×Int))):∀(x:TsS c7.as) (F:TsF c7.fs) (y:TsS c7.cs),batten_Put_b lp jn slices_ContainsFunc_25 batten_alone batten_inside batten_Valid batten_Put_1 batten_Put_2 slices_Clone_67 slices_Clone_68 slices_Clone_69 x.1 x.2.1=runC lp jn (ctxOf prog shs inls its [(29,⟨[T27],[],[T27],.one .bool,fun x _ y=>batten_Put_2 x.1 y.1⟩),(26,⟨[T27],[],[T27],.one .bool,fun x _ y=>batten_Put_1 x.1 y.1⟩),(24,⟨[T35],[],[],.one .bool,fun x _ _=>batten_Valid x.1⟩),(28,⟨[T27,i64],[],[],.one .bool,fun x _ _=>batten_inside x.1 x.2.1⟩),(27,⟨[T27],[],[],.one .bool,fun x _ _=>batten_alone x.1⟩),(25,⟨[(.sl T27)],[([T27],.bool)],[],.one .bool,fun x F _=>slices_ContainsFunc_25 x.1 F.1⟩)] [(113,r113),(39,r39),(69,⟨[(.sl T86)],86,T86,fun x=>slices_Clone_69 x.1⟩),(68,⟨[(.sl T27)],27,T27,fun x=>slices_Clone_68 x.1⟩),(67,⟨[(.sl i64)],3,i64,fun x=>slices_Clone_67 x.1⟩)]) hints 4 7 f7 c7 x F y:=fun x F y=>by kernel_rfl
theorem l7:(ctxOf prog shs inls its [(29,c29),(26,c26),(24,c24),(28,c28),(27,c27),(25,c25)] [(113,r113),(39,r39),(69,r69),(68,r68),(67,r67)]).ok:=ctxOf_cons (ctxOf_cons (ctxOf_cons (ctxOf_cons (ctxOf_cons (ctxOf_cons (q113) (by kernel_rfl) ok25) (by kernel_rfl) ok27) (by kernel_rfl) ok28) (by kernel_rfl) ok24) (by kernel_rfl) ok26) (by kernel_rfl) ok29
theorem ok7:c7.ok prog 7:=Ctr.of_den l7 hmix (hl:=hints) (d:=4) func7 rfl (by decide) (e7 lpK jnK slices_ContainsFunc_25 batten_alone batten_inside batten_Valid batten_Put_1 batten_Put_2 slices_Clone_67 slices_Clone_68 slices_Clone_69)
noncomputable def house_copied_b (_:Lp) (_:Jn) (slices_Clone_67:(List Int)->Option (List Int)) (slices_Clone_68:(List (ByteArray×Int×Int×Int×Int×Int×Int))->Option (List (ByteArray×Int×Int×Int×Int×Int×Int))) (slices_Clone_69:(List (ByteArray×Int×Int))->Option (List (ByteArray×Int×Int))) (x0:ByteArray×Int×Int×Int×Int×(List Int)×Int×Int×Int×Int×Int×(List (ByteArray×Int×Int×Int×Int×Int×Int))×List (ByteArray×Int×Int)):Option (ByteArray×Int×Int×Int×Int×(List Int)×Int×Int×Int×Int×Int×(List (ByteArray×Int×Int×Int×Int×Int×Int))×List (ByteArray×Int×Int)) :=
 obind (slices_Clone_67 x0.2.2.2.2.2.1) fun (t:List Int)=>obind (slices_Clone_68 x0.2.2.2.2.2.2.2.2.2.2.2.1) fun (t_1:List (ByteArray×Int×Int ×
  Int×Int×Int×Int))=>obind (slices_Clone_69 x0.2.2.2.2.2.2.2.2.2.2.2.2) fun (t_2:List (ByteArray×Int×Int))=>some (x0.1,x0.2.1,
  x0.2.2.1,x0.2.2.2.1,x0.2.2.2.2.1,t,x0.2.2.2.2.2.2.1,x0.2.2.2.2.2.2.2.1,x0.2.2.2.2.2.2.2.2.1,
  x0.2.2.2.2.2.2.2.2.2.1,x0.2.2.2.2.2.2.2.2.2.2.1,t_1,t_2)
noncomputable def house_copied (x0:ByteArray×Int×Int×Int×Int×(List Int)×Int×Int×Int×Int×Int×(List (ByteArray×Int×Int×Int×Int×Int×Int))×List (ByteArray×Int×Int)):Option (ByteArray×Int×Int×Int×Int×(List Int)×Int×Int×Int×Int×Int×(List (ByteArray×Int×Int×Int×Int×Int×Int))×List (ByteArray×Int×Int)):=house_copied_b lpK jnK slices_Clone_67 slices_Clone_68 slices_Clone_69 x0
noncomputable def c40:Ctr:=⟨[T35],[],[],.one T35,fun x _ _=>house_copied x.1⟩
theorem e40 (lp:Lp) (jn:Jn) (slices_Clone_67:(List Int)->Option (List Int)) (slices_Clone_68:(List (ByteArray×Int×Int×Int×Int×Int×Int))->Option (List (ByteArray×Int×Int×Int×Int×Int×Int))) (slices_Clone_69:(List (ByteArray×Int×Int))->Option (List (ByteArray×Int×Int))):∀(x:TsS c40.as) (F:TsF c40.fs) (y:TsS c40.cs),house_copied_b lp jn slices_Clone_67 slices_Clone_68 slices_Clone_69 x.1=runC lp jn (ctxOf prog shs inls its [] [(113,r113),(39,r39),(69,⟨[(.sl T86)],86,T86,fun x=>slices_Clone_69 x.1⟩),(68,⟨[(.sl T27)],27,T27,fun x=>slices_Clone_68 x.1⟩),(67,⟨[(.sl i64)],3,i64,fun x=>slices_Clone_67 x.1⟩)]) hints 4 40 f40 c40 x F y:=fun x F y=>by kernel_rfl
theorem l40:(ctxOf prog shs inls its [] [(113,r113),(39,r39),(69,r69),(68,r68),(67,r67)]).ok:=q113
theorem ok40:c40.ok prog 40:=Ctr.of_den l40 hmix (hl:=hints) (d:=4) func40 rfl (by decide) (e40 lpK jnK slices_Clone_67 slices_Clone_68 slices_Clone_69)
noncomputable def house_Put_b (lp:Lp) (_:Jn) (batten_Valid:(ByteArray×Int×Int×Int×Int×(List Int)×Int×Int×Int×Int×Int×(List (ByteArray×Int×Int×Int×Int×Int×Int))×List (ByteArray×Int×Int))->Option (Bool)) (house_find:(ByteArray×Int×(List (ByteArray×Int×Int×Int×Int×(List Int)×Int×Int×Int×Int×Int×(List (ByteArray×Int×Int×Int×Int×Int×Int))×List (ByteArray×Int×Int)))×List (ByteArray×Int×Int×Int))->(ByteArray)->Option (Int)) (house_Valid:(ByteArray×Int×(List (ByteArray×Int×Int×Int×Int×(List Int)×Int×Int×Int×Int×Int×(List (ByteArray×Int×Int×Int×Int×Int×Int))×List (ByteArray×Int×Int)))×List (ByteArray×Int×Int×Int))->Option (Bool)) (house_copied:(ByteArray×Int×Int×Int×Int×(List Int)×Int×Int×Int×Int×Int×(List (ByteArray×Int×Int×Int×Int×Int×Int))×List (ByteArray×Int×Int))->Option (ByteArray×Int×Int×Int×Int×(List Int)×Int×Int×Int×Int×Int×(List (ByteArray×Int×Int×Int×Int×Int×Int))×List (ByteArray×Int×Int))) (slices_Clone_39:(List (ByteArray×Int×Int×Int))->Option (List (ByteArray×Int×Int×Int))) (x0:ByteArray×Int×(List (ByteArray×Int×Int×Int×Int×(List Int)×Int×Int×Int×Int×Int×(List (ByteArray×Int×Int×Int×Int×Int×Int))×List (ByteArray×Int×Int)))×List (ByteArray×Int×Int×Int)) (x1:ByteArray×Int×Int×Int×Int×(List Int)×Int×Int×Int×Int×Int×(List (ByteArray×Int×Int×Int×Int×Int×Int))×List (ByteArray×Int×Int)):Option ((ByteArray×Int×(List (ByteArray×Int×Int×Int×Int×(List Int)×Int×Int×Int×Int×Int×(List (ByteArray×Int×Int×Int×Int×Int×Int))×List (ByteArray×Int×Int)))×List (ByteArray×Int×Int×Int))×Int×Unit) :=
 
 let v4:List (ByteArray×Int×Int×Int×Int×List Int×Int×Int×Int×Int×Int×List (ByteArray×Int×Int×Int×Int×Int×Int)×List (ByteArray×Int×Int)):=[];
  obind (house_Valid x0) fun (t:Bool) =>
 let v6:Bool:=!t;
 let v7:Bool:=!v6;
 let v8:Bool:=!v7||v7;
 let v9:ByteArray×Int×List (ByteArray×Int×Int×Int×Int×List Int×Int×Int×Int×Int×Int×List (ByteArray×Int×Int×Int×Int×Int×Int)×List (ByteArray×Int
  × Int))×List (ByteArray×Int×Int×Int):=({ data:=#[] },(0:Int),v4,[]);bif v8 then obind (bif v7 then batten_Valid x1 else some false) fun (t:Bool) =>
 let v11:Bool:=bif v6 then true else !t;
 let v12:Bool:=!v11;
 let v13:Bool:=!v12||v12;bif v8 then bif v6||v7 then bif v13 then bif v13 then bif v13&&v13 then bif v11||v12 then bif bif v11 then true else decide (x1.2.2.2.1 >
  x0.2.1) then some (v9,(1:Int),PUnit.unit) else obind (house_find x0 x1.1) fun (t:Int) =>
 let v15:Bool:=decide (t<(0:Int));
 let v16:Bool:=!v15||v15;bif v16 then bif v16 then bif v16 then bif v16 then bif bif v15 then decide ((↑(List.length x0.2.2.1):Int)=(60:Int)) else false then some (v9,
  (4:Int),PUnit.unit) else obind (slices_Clone_39 x0.2.2.2) fun (t_1:List (ByteArray×Int×Int×Int))=>lp (Int×ByteArray×Int×List (ByteArray×Int×Int×Int×Int
  × List Int×Int×Int×Int×Int×Int×List (ByteArray×Int×Int×Int×Int×Int×Int)×List (ByteArray×Int×Int))×List (ByteArray×Int×Int×Int)×PUnit) ((ByteArray
  × Int×List (ByteArray×Int×Int×Int×Int×List Int×Int×Int×Int×Int×Int×List (ByteArray×Int×Int×Int×Int×Int×Int)×List (ByteArray×Int×Int))×List
  (ByteArray×Int×Int×Int))×Int×PUnit) (fun (again:Int×ByteArray×Int×List (ByteArray×Int×Int×Int×Int×List Int×Int×Int×Int×Int×Int×List (ByteArray ×
  Int×Int×Int×Int×Int×Int)×List (ByteArray×Int×Int))×List (ByteArray×Int×Int×Int)×PUnit->Option ((ByteArray×Int×List (ByteArray×Int×Int×Int×Int ×
  List Int×Int×Int×Int×Int×Int×List (ByteArray×Int×Int×Int×Int×Int×Int)×List (ByteArray×Int×Int))×List (ByteArray×Int×Int×Int))×Int×PUnit)) (x :
  Int×ByteArray×Int×List (ByteArray×Int×Int×Int×Int×List Int×Int×Int×Int×Int×Int×List (ByteArray×Int×Int×Int×Int×Int×Int)×List (ByteArray×Int ×
  Int))×List (ByteArray×Int×Int×Int)×PUnit) =>
 let v20:Bool:=fitB (List.length x.2.2.2.1+(1:Nat)) (160:Nat);bif decide (x.1<(↑(List.length x0.2.2.1):Int)) then bif inB x.1 (List.length x0.2.2.1)
  then obind (house_copied (List.getD x0.2.2.1 (Int.toNat x.1) ({ data:={ toList:=[] } },(0:Int),(0:Int),(0:Int),(0:Int),[],(0:Int),(0:Int),(0:Int),(0 :
  Int),(0:Int),[],[]))) fun (t:ByteArray×Int×Int×Int×Int×List Int×Int×Int×Int×Int×Int×List (ByteArray×Int×Int×Int×Int×Int×Int)×List (ByteArray ×
  Int×Int))=>bif v20 then again (IntKind.wrap .i64 (x.1+(1:Int)),x.2.1,x.2.2.1,x.2.2.2.1++t ::v4,x.2.2.2.2.1,PUnit.unit) else none
  else none else bif v15 then obind (house_copied x1) fun (t:ByteArray×Int×Int×Int×Int×List Int×Int×Int×Int×Int×Int×List (ByteArray×Int×Int×Int×Int×Int ×
  Int)×List (ByteArray×Int×Int))=>bif v20 then some ((x.2.1,x.2.2.1,x.2.2.2.1++t ::v4,x.2.2.2.2.1),(0:Int),PUnit.unit) else none else obind
  (house_copied x1) fun (t_2:ByteArray×Int×Int×Int×Int×List Int×Int×Int×Int×Int×Int×List (ByteArray×Int×Int×Int×Int×Int×Int)×List (ByteArray×Int ×
  Int))=>bif inB t (List.length x.2.2.2.1) then bif Nat.ble (Nat.succ (Int.toNat t)) (List.length x.2.2.2.1) then some ((x.2.1,x.2.2.1,List.set
  x.2.2.2.1 (Int.toNat t) t_2,x.2.2.2.2.1),(0:Int),PUnit.unit) else none else none) ((0:Int),x0.1,x0.2.1,v4,t_1,PUnit.unit) else none else none else
  none else none else none else none else none else none else none else none else none
noncomputable def house_Put (x0:ByteArray×Int×(List (ByteArray×Int×Int×Int×Int×(List Int)×Int×Int×Int×Int×Int×(List (ByteArray×Int×Int×Int×Int×Int×Int))×List (ByteArray×Int×Int)))×List (ByteArray×Int×Int×Int)) (x1:ByteArray×Int×Int×Int×Int×(List Int)×Int×Int×Int×Int×Int×(List (ByteArray×Int×Int×Int×Int×Int×Int))×List (ByteArray×Int×Int)):Option ((ByteArray×Int×(List (ByteArray×Int×Int×Int×Int×(List Int)×Int×Int×Int×Int×Int×(List (ByteArray×Int×Int×Int×Int×Int×Int))×List (ByteArray×Int×Int)))×List (ByteArray×Int×Int×Int))×Int×Unit):=house_Put_b lpK jnK batten_Valid house_find house_Valid house_copied slices_Clone_39 x0 x1
noncomputable def c11:Ctr:=⟨[T25,T35],[],[],.tup [T25,i64],fun x _ _=>house_Put x.1 x.2.1⟩
theorem e11 (lp:Lp) (jn:Jn) (batten_Valid:(ByteArray×Int×Int×Int×Int×(List Int)×Int×Int×Int×Int×Int×(List (ByteArray×Int×Int×Int×Int×Int×Int))×List (ByteArray×Int×Int))->Option (Bool)) (house_find:(ByteArray×Int×(List (ByteArray×Int×Int×Int×Int×(List Int)×Int×Int×Int×Int×Int×(List (ByteArray×Int×Int×Int×Int×Int×Int))×List (ByteArray×Int×Int)))×List (ByteArray×Int×Int×Int))->(ByteArray)->Option (Int)) (house_Valid:(ByteArray×Int×(List (ByteArray×Int×Int×Int×Int×(List Int)×Int×Int×Int×Int×Int×(List (ByteArray×Int×Int×Int×Int×Int×Int))×List (ByteArray×Int×Int)))×List (ByteArray×Int×Int×Int))->Option (Bool)) (house_copied:(ByteArray×Int×Int×Int×Int×(List Int)×Int×Int×Int×Int×Int×(List (ByteArray×Int×Int×Int×Int×Int×Int))×List (ByteArray×Int×Int))->Option (ByteArray×Int×Int×Int×Int×(List Int)×Int×Int×Int×Int×Int×(List (ByteArray×Int×Int×Int×Int×Int×Int))×List (ByteArray×Int×Int))) (slices_Clone_39:(List (ByteArray×Int×Int×Int))->Option (List (ByteArray×Int×Int×Int))):∀(x:TsS c11.as) (F:TsF c11.fs) (y:TsS c11.cs),house_Put_b lp jn batten_Valid house_find house_Valid house_copied slices_Clone_39 x.1 x.2.1=runC lp jn (ctxOf prog shs inls its [(40,⟨[T35],[],[],.one T35,fun x _ _=>house_copied x.1⟩),(37,⟨[T25],[],[],.one .bool,fun x _ _=>house_Valid x.1⟩),(38,⟨[T25,.str],[],[],.one i64,fun x _ _=>house_find x.1 x.2.1⟩),(24,⟨[T35],[],[],.one .bool,fun x _ _=>batten_Valid x.1⟩)] [(113,r113),(39,⟨[(.sl T68)],68,T68,fun x=>slices_Clone_39 x.1⟩),(69,r69),(68,r68),(67,r67)]) hints 4 11 f11 c11 x F y:=fun x F y=>by kernel_rfl
theorem l11:(ctxOf prog shs inls its [(40,c40),(37,c37),(38,c38),(24,c24)] [(113,r113),(39,r39),(69,r69),(68,r68),(67,r67)]).ok:=ctxOf_cons (ctxOf_cons (ctxOf_cons (ctxOf_cons (q113) (by kernel_rfl) ok24) (by kernel_rfl) ok38) (by kernel_rfl) ok37) (by kernel_rfl) ok40
theorem ok11:c11.ok prog 11:=Ctr.of_den l11 hmix (hl:=hints) (d:=4) func11 rfl (by decide) (e11 lpK jnK batten_Valid house_find house_Valid house_copied slices_Clone_39)
noncomputable def slices_IndexFunc_131_b (lp:Lp) (_:Jn) (x0:List (ByteArray×Int×Int)) (f0:(((ByteArray×Int×Int)×Unit)->Option Bool)):Option Int :=
 lp (Int×PUnit) Int (fun (again:Int×PUnit->Option Int) (x:Int×PUnit)=>bif decide (x.1<(↑(List.length x0):Int)) then bif inB x.1 (List.length x0) then obind (f0
  (List.getD x0 (Int.toNat x.1) ({ data:={ toList:=[] } },(0:Int),(0:Int)),PUnit.unit)) fun (t:Bool)=>bif t then some x.1 else again (IntKind.wrap .i64 (x.1 +
  (1:Int)),PUnit.unit) else none else some (-1:Int)) ((0:Int),PUnit.unit)
noncomputable def slices_IndexFunc_131 (x0:List (ByteArray×Int×Int)) (f0:(((ByteArray×Int×Int)×Unit)->Option Bool)):Option Int:=slices_IndexFunc_131_b lpK jnK x0 f0
noncomputable def c131:Ctr:=⟨[(.sl T86)],[([T86],.bool)],[],.one i64,fun x F _=>slices_IndexFunc_131 x.1 F.1⟩
theorem e131 (lp:Lp) (jn:Jn):∀(x:TsS c131.as) (F:TsF c131.fs) (y:TsS c131.cs),slices_IndexFunc_131_b lp jn x.1 F.1=runC lp jn (ctxOf prog shs inls its [] [(113,r113),(39,r39),(69,r69),(68,r68),(67,r67)]) hints 4 131 f131 c131 x F y:=fun x F y=>by kernel_rfl
theorem l131:(ctxOf prog shs inls its [] [(113,r113),(39,r39),(69,r69),(68,r68),(67,r67)]).ok:=q113
theorem ok131:c131.ok prog 131:=Ctr.of_den l131 hmix (hl:=hints) (d:=4) func131 rfl (by decide) (e131 lpK jnK)
noncomputable def slices_ContainsFunc_109_b (_:Lp) (_:Jn) (slices_IndexFunc_131:(List (ByteArray×Int×Int))->((((ByteArray×Int×Int)×Unit)->Option Bool))->Option (Int)) (x0:List (ByteArray×Int×Int)) (f0:(((ByteArray×Int×Int)×Unit)->Option Bool)):Option Bool :=
 obind (slices_IndexFunc_131 x0 f0) fun (t:Int)=>some (decide (t>=(0:Int)))
noncomputable def slices_ContainsFunc_109 (x0:List (ByteArray×Int×Int)) (f0:(((ByteArray×Int×Int)×Unit)->Option Bool)):Option Bool:=slices_ContainsFunc_109_b lpK jnK slices_IndexFunc_131 x0 f0
noncomputable def c109:Ctr:=⟨[(.sl T86)],[([T86],.bool)],[],.one .bool,fun x F _=>slices_ContainsFunc_109 x.1 F.1⟩
theorem e109 (lp:Lp) (jn:Jn) (slices_IndexFunc_131:(List (ByteArray×Int×Int))->((((ByteArray×Int×Int)×Unit)->Option Bool))->Option (Int)):∀(x:TsS c109.as) (F:TsF c109.fs) (y:TsS c109.cs),slices_ContainsFunc_109_b lp jn slices_IndexFunc_131 x.1 F.1=runC lp jn (ctxOf prog shs inls its [(131,⟨[(.sl T86)],[([T86],.bool)],[],.one i64,fun x F _=>slices_IndexFunc_131 x.1 F.1⟩)] [(113,r113),(39,r39),(69,r69),(68,r68),(67,r67)]) hints 4 109 f109 c109 x F y:=fun x F y=>by kernel_rfl
theorem l109:(ctxOf prog shs inls its [(131,c131)] [(113,r113),(39,r39),(69,r69),(68,r68),(67,r67)]).ok:=ctxOf_cons (q113) (by kernel_rfl) ok131
theorem ok109:c109.ok prog 109:=Ctr.of_den l109 hmix (hl:=hints) (d:=4) func109 rfl (by decide) (e109 lpK jnK slices_IndexFunc_131)
noncomputable def arbor_Valid_1_b (_:Lp) (_:Jn) (x0:ByteArray×Int×Int) (y0:ByteArray×Int×Int):Option Bool :=
 some (List.beq (ByteArray.toList x0.1) (ByteArray.toList y0.1))
noncomputable def arbor_Valid_1 (x0:ByteArray×Int×Int) (y0:ByteArray×Int×Int):Option Bool:=arbor_Valid_1_b lpK jnK x0 y0
noncomputable def c110:Ctr:=⟨[T86],[],[T86],.one .bool,fun x _ y=>arbor_Valid_1 x.1 y.1⟩
theorem e110 (lp:Lp) (jn:Jn):∀(x:TsS c110.as) (F:TsF c110.fs) (y:TsS c110.cs),arbor_Valid_1_b lp jn x.1 y.1=runC lp jn (ctxOf prog shs inls its [] [(113,r113),(39,r39),(69,r69),(68,r68),(67,r67)]) hints 4 110 f110 c110 x F y:=fun x F y=>by kernel_rfl
theorem l110:(ctxOf prog shs inls its [] [(113,r113),(39,r39),(69,r69),(68,r68),(67,r67)]).ok:=q113
theorem ok110:c110.ok prog 110:=Ctr.of_den l110 hmix (hl:=hints) (d:=4) func110 rfl (by decide) (e110 lpK jnK)
noncomputable def arbor_Valid_b (lp:Lp) (_:Jn) (decimal_IsName:(ByteArray)->Option (Bool)) (slices_ContainsFunc_109:(List (ByteArray×Int×Int))->((((ByteArray×Int×Int)×Unit)->Option Bool))->Option (Bool)) (arbor_Valid_1:(ByteArray×Int×Int)->(ByteArray×Int×Int)->Option (Bool)) (x0:List (ByteArray×Int×Int)):Option Bool :=
 bif decide ((↑(List.length x0):Int)>(8:Int)) then some false else lp (Int×Int×PUnit) Bool (fun (again:Int×Int×PUnit->Option Bool) (x:Int×Int×PUnit) =>
 let v5:ByteArray×Int×Int:=List.getD x0 (Int.toNat x.2.1) ({ data:={ toList:=[] } },(0:Int),(0:Int));bif decide (x.2.1<(↑(List.length x0):Int)) then bif inB
  x.2.1 (List.length x0) then obind (decimal_IsName v5.1) fun (t:Bool) =>
 let v7:Bool:=!t;
 let v8:Bool:=!v7;
 let v9:Bool:=!v8||v8;
 let v10:Bool:=bif v7 then true else decide (v5.2.1<(1:Int));
 let v11:Bool:=!v10;
 let v12:Bool:=bif v10 then true else decide (v5.2.1>(1048576:Int));
 let v13:Bool:=!v12;
 let v14:Bool:=!v11||v11;
 let v15:Bool:=bif v12 then true else decide (v5.2.2<(0:Int));
 let v16:Bool:=!v15;
 let v17:Bool:=!v13||v13;
 let v18:Bool:=!v16||v16;bif v9 then bif v9 then bif v7||v8 then bif v14 then bif v14 then bif v10||v11 then bif v17 then bif v17 then bif v12||v13 then bif v18 then bif v18
  then bif v15||v16 then bif bif v15 then true else decide (v5.2.2>(60:Int)) then some false else bif slB (0:Int) x.2.1 (List.length x0) then obind
  (slices_ContainsFunc_109 (List.drop (0:Nat) (List.take (Int.toNat x.2.1) x0)) fun (x:(ByteArray×Int×Int)×PUnit)=>arbor_Valid_1 x.1 v5) fun (t:Bool)=>bif t then
  some false else again (IntKind.wrap .i64 (x.1+v5.2.2),IntKind.wrap .i64 (x.2.1+(1:Int)),PUnit.unit) else none else none else none else none else none
  else none else none else none else none else none else none else none else none else none else some (decide (x.1<=(60:Int)))) ((0:Int),(0:Int),PUnit.unit)
noncomputable def arbor_Valid (x0:List (ByteArray×Int×Int)):Option Bool:=arbor_Valid_b lpK jnK decimal_IsName slices_ContainsFunc_109 arbor_Valid_1 x0
noncomputable def c74:Ctr:=⟨[(.sl T86)],[],[],.one .bool,fun x _ _=>arbor_Valid x.1⟩
theorem e74 (lp:Lp) (jn:Jn) (decimal_IsName:(ByteArray)->Option (Bool)) (slices_ContainsFunc_109:(List (ByteArray×Int×Int))->((((ByteArray×Int×Int)×Unit)->Option Bool))->Option (Bool)) (arbor_Valid_1:(ByteArray×Int×Int)->(ByteArray×Int×Int)->Option (Bool)):∀(x:TsS c74.as) (F:TsF c74.fs) (y:TsS c74.cs),arbor_Valid_b lp jn decimal_IsName slices_ContainsFunc_109 arbor_Valid_1 x.1=runC lp jn (ctxOf prog shs inls its [(110,⟨[T86],[],[T86],.one .bool,fun x _ y=>arbor_Valid_1 x.1 y.1⟩),(109,⟨[(.sl T86)],[([T86],.bool)],[],.one .bool,fun x F _=>slices_ContainsFunc_109 x.1 F.1⟩),(61,⟨[.str],[],[],.one .bool,fun x _ _=>decimal_IsName x.1⟩)] [(113,r113),(39,r39),(69,r69),(68,r68),(67,r67)]) hints 4 74 f74 c74 x F y:=fun x F y=>by kernel_rfl
theorem l74:(ctxOf prog shs inls its [(110,c110),(109,c109),(61,c61)] [(113,r113),(39,r39),(69,r69),(68,r68),(67,r67)]).ok:=ctxOf_cons (ctxOf_cons (ctxOf_cons (q113) (by kernel_rfl) ok61) (by kernel_rfl) ok109) (by kernel_rfl) ok110
theorem ok74:c74.ok prog 74:=Ctr.of_den l74 hmix (hl:=hints) (d:=4) func74 rfl (by decide) (e74 lpK jnK decimal_IsName slices_ContainsFunc_109 arbor_Valid_1)
noncomputable def arbor_Weight_b (lp:Lp) (_:Jn) (arbor_Valid:(List (ByteArray×Int×Int))->Option (Bool)) (x0:List (ByteArray×Int×Int)) (x1:List Int):Option (Int×Int×Unit) :=
 obind (arbor_Valid x0) fun (t:Bool)=>bif !t then some ((0:Int),(1:Int),PUnit.unit) else bif !decide ((↑(List.length x1):Int)=(↑(List.length x0):Int)) then some ((0:Int),
  (3:Int),PUnit.unit) else lp (Int×Int×PUnit) (Int×Int×PUnit) (fun (again:Int×Int×PUnit->Option (Int×Int×PUnit)) (x:Int×Int×PUnit) =>
 let v7:Bool:=inB x.2.1 (List.length x0);
 let v8:Bool:=decide (List.getD x1 (Int.toNat x.2.1) (0:Int)<(0:Int));
 let v9:Bool:=!v8;
 let v10:Bool:=!v9;
 let v11:Bool:=v10||v9;bif decide (x.2.1<(↑(List.length x1):Int)) then bif inB x.2.1 (List.length x1) then bif v11&&(v11&&(v10||v7)) then bif v11 then bif v11 then
  bif v11&&v11 then bif v8||v9 then bif bif v8 then true else decide (List.getD x1 (Int.toNat x.2.1) (0:Int)>(List.getD x0 (Int.toNat x.2.1) ({ data:={ toList:=[] } },
  (0:Int),(0:Int))).2.2) then some ((0:Int),(2:Int),PUnit.unit) else bif v7 then again (IntKind.wrap .i64 (x.1+IntKind.wrap .i64 (List.getD x1 (Int.toNat
  x.2.1) (0:Int)*(List.getD x0 (Int.toNat x.2.1) ({ data:={ toList:=[] } },(0:Int),(0:Int))).2.1)),IntKind.wrap .i64 (x.2.1+(1:Int)),PUnit.unit)
  else none else none else none else none else none else none else none else some (x.1,(0:Int),PUnit.unit)) ((0:Int),(0:Int),PUnit.unit)
noncomputable def arbor_Weight (x0:List (ByteArray×Int×Int)) (x1:List Int):Option (Int×Int×Unit):=arbor_Weight_b lpK jnK arbor_Valid x0 x1
noncomputable def c41:Ctr:=⟨[(.sl T86),(.sl i64)],[],[],.tup [i64,i64],fun x _ _=>arbor_Weight x.1 x.2.1⟩
theorem e41 (lp:Lp) (jn:Jn) (arbor_Valid:(List (ByteArray×Int×Int))->Option (Bool)):∀(x:TsS c41.as) (F:TsF c41.fs) (y:TsS c41.cs),arbor_Weight_b lp jn arbor_Valid x.1 x.2.1=runC lp jn (ctxOf prog shs inls its [(74,⟨[(.sl T86)],[],[],.one .bool,fun x _ _=>arbor_Valid x.1⟩)] [(113,r113),(39,r39),(69,r69),(68,r68),(67,r67)]) hints 4 41 f41 c41 x F y:=fun x F y=>by kernel_rfl
theorem l41:(ctxOf prog shs inls its [(74,c74)] [(113,r113),(39,r39),(69,r69),(68,r68),(67,r67)]).ok:=ctxOf_cons (q113) (by kernel_rfl) ok74
theorem ok41:c41.ok prog 41:=Ctr.of_den l41 hmix (hl:=hints) (d:=4) func41 rfl (by decide) (e41 lpK jnK arbor_Valid)
noncomputable def slices_IndexFunc_132_b (lp:Lp) (_:Jn) (x0:List (Int×Int)) (f0:(((Int×Int)×Unit)->Option Bool)):Option Int :=
 lp (Int×PUnit) Int (fun (again:Int×PUnit->Option Int) (x:Int×PUnit)=>bif decide (x.1<(↑(List.length x0):Int)) then bif inB x.1 (List.length x0) then obind (f0
  (List.getD x0 (Int.toNat x.1) ((0:Int),(0:Int)),PUnit.unit)) fun (t:Bool)=>bif t then some x.1 else again (IntKind.wrap .i64 (x.1+(1:Int)),PUnit.unit) else
  none else some (-1:Int)) ((0:Int),PUnit.unit)
noncomputable def slices_IndexFunc_132 (x0:List (Int×Int)) (f0:(((Int×Int)×Unit)->Option Bool)):Option Int:=slices_IndexFunc_132_b lpK jnK x0 f0
noncomputable def c132:Ctr:=⟨[(.sl T89)],[([T89],.bool)],[],.one i64,fun x F _=>slices_IndexFunc_132 x.1 F.1⟩
theorem e132 (lp:Lp) (jn:Jn):∀(x:TsS c132.as) (F:TsF c132.fs) (y:TsS c132.cs),slices_IndexFunc_132_b lp jn x.1 F.1=runC lp jn (ctxOf prog shs inls its [] [(113,r113),(39,r39),(69,r69),(68,r68),(67,r67)]) hints 4 132 f132 c132 x F y:=fun x F y=>by kernel_rfl
theorem l132:(ctxOf prog shs inls its [] [(113,r113),(39,r39),(69,r69),(68,r68),(67,r67)]).ok:=q113
theorem ok132:c132.ok prog 132:=Ctr.of_den l132 hmix (hl:=hints) (d:=4) func132 rfl (by decide) (e132 lpK jnK)
noncomputable def slices_ContainsFunc_111_b (_:Lp) (_:Jn) (slices_IndexFunc_132:(List (Int×Int))->((((Int×Int)×Unit)->Option Bool))->Option (Int)) (x0:List (Int×Int)) (f0:(((Int×Int)×Unit)->Option Bool)):Option Bool :=
 obind (slices_IndexFunc_132 x0 f0) fun (t:Int)=>some (decide (t>=(0:Int)))
noncomputable def slices_ContainsFunc_111 (x0:List (Int×Int)) (f0:(((Int×Int)×Unit)->Option Bool)):Option Bool:=slices_ContainsFunc_111_b lpK jnK slices_IndexFunc_132 x0 f0
noncomputable def c111:Ctr:=⟨[(.sl T89)],[([T89],.bool)],[],.one .bool,fun x F _=>slices_ContainsFunc_111 x.1 F.1⟩
theorem e111 (lp:Lp) (jn:Jn) (slices_IndexFunc_132:(List (Int×Int))->((((Int×Int)×Unit)->Option Bool))->Option (Int)):∀(x:TsS c111.as) (F:TsF c111.fs) (y:TsS c111.cs),slices_ContainsFunc_111_b lp jn slices_IndexFunc_132 x.1 F.1=runC lp jn (ctxOf prog shs inls its [(132,⟨[(.sl T89)],[([T89],.bool)],[],.one i64,fun x F _=>slices_IndexFunc_132 x.1 F.1⟩)] [(113,r113),(39,r39),(69,r69),(68,r68),(67,r67)]) hints 4 111 f111 c111 x F y:=fun x F y=>by kernel_rfl
theorem l111:(ctxOf prog shs inls its [(132,c132)] [(113,r113),(39,r39),(69,r69),(68,r68),(67,r67)]).ok:=ctxOf_cons (q113) (by kernel_rfl) ok132
theorem ok111:c111.ok prog 111:=Ctr.of_den l111 hmix (hl:=hints) (d:=4) func111 rfl (by decide) (e111 lpK jnK slices_IndexFunc_132)
noncomputable def grid_given_1_b (_:Lp) (_:Jn) (grid_within:(Int)->Option (Bool)) (x0:Int×Int):Option Bool :=
 obind (grid_within x0.1) fun (t:Bool) =>
 let v4:Bool:=!t;
 let v5:Bool:=!v4;
 let v6:Bool:=!v5||v5;
 let v7:Bool:=bif v4 then true else decide (x0.2<(0:Int));
 let v8:Bool:=!v7;
 let v9:Bool:=!v8||v8;bif v6 then bif v6 then bif v4||v5 then bif v9 then bif v9 then bif v7||v8 then some (bif v7 then true else decide (x0.2>(67108864:Int))) else none
  else none else none else none else none else none
noncomputable def grid_given_1 (x0:Int×Int):Option Bool:=grid_given_1_b lpK jnK grid_within x0
noncomputable def c112:Ctr:=⟨[T89],[],[],.one .bool,fun x _ _=>grid_given_1 x.1⟩
theorem e112 (lp:Lp) (jn:Jn) (grid_within:(Int)->Option (Bool)):∀(x:TsS c112.as) (F:TsF c112.fs) (y:TsS c112.cs),grid_given_1_b lp jn grid_within x.1=runC lp jn (ctxOf prog shs inls its [(106,⟨[i64],[],[],.one .bool,fun x _ _=>grid_within x.1⟩)] [(113,r113),(39,r39),(69,r69),(68,r68),(67,r67)]) hints 4 112 f112 c112 x F y:=fun x F y=>by kernel_rfl
theorem l112:(ctxOf prog shs inls its [(106,c106)] [(113,r113),(39,r39),(69,r69),(68,r68),(67,r67)]).ok:=ctxOf_cons (q113) (by kernel_rfl) ok106
theorem ok112:c112.ok prog 112:=Ctr.of_den l112 hmix (hl:=hints) (d:=4) func112 rfl (by decide) (e112 lpK jnK grid_within)
noncomputable def grid_given_b (_:Lp) (_:Jn) (grid_Valid:(List (ByteArray×Int×Int×Int))->Option (Bool)) (slices_ContainsFunc_111:(List (Int×Int))->((((Int×Int)×Unit)->Option Bool))->Option (Bool)) (grid_given_1:(Int×Int)->Option (Bool)) (x0:List (ByteArray×Int×Int×Int)) (x1:List (Int×Int)):Option Int :=
 
 let v4:Bool:=decide ((↑(List.length x1):Int)>(1000:Int));obind (grid_Valid x0) fun (t:Bool) =>
 let v6:Bool:=!t;
 let v7:Bool:=!v6;
 let v8:Bool:=bif v6 then true else v4;
 let v9:Bool:=!v8;
 let v10:Bool:=!v7||v7;bif v10 then bif v10 then bif v6||v7 then bif !v9||v9 then obind (bif v9 then slices_ContainsFunc_111 x1 fun (x:(Int×Int)×PUnit)=>grid_given_1
  x.1 else some false) fun (t:Bool)=>bif v8||v9 then bif bif v8 then true else t then some (1:Int) else some (0:Int) else none else none else none else none else none
noncomputable def grid_given (x0:List (ByteArray×Int×Int×Int)) (x1:List (Int×Int)):Option Int:=grid_given_b lpK jnK grid_Valid slices_ContainsFunc_111 grid_given_1 x0 x1
noncomputable def c75:Ctr:=⟨[(.sl T68),(.sl T89)],[],[],.one i64,fun x _ _=>grid_given x.1 x.2.1⟩
theorem e75 (lp:Lp) (jn:Jn) (grid_Valid:(List (ByteArray×Int×Int×Int))->Option (Bool)) (slices_ContainsFunc_111:(List (Int×Int))->((((Int×Int)×Unit)->Option Bool))->Option (Bool)) (grid_given_1:(Int×Int)->Option (Bool)):∀(x:TsS c75.as) (F:TsF c75.fs) (y:TsS c75.cs),grid_given_b lp jn grid_Valid slices_ContainsFunc_111 grid_given_1 x.1 x.2.1=runC lp jn (ctxOf prog shs inls its [(112,⟨[T89],[],[],.one .bool,fun x _ _=>grid_given_1 x.1⟩),(111,⟨[(.sl T89)],[([T89],.bool)],[],.one .bool,fun x F _=>slices_ContainsFunc_111 x.1 F.1⟩),(71,⟨[(.sl T68)],[],[],.one .bool,fun x _ _=>grid_Valid x.1⟩)] [(113,r113),(39,r39),(69,r69),(68,r68),(67,r67)]) hints 4 75 f75 c75 x F y:=fun x F y=>by kernel_rfl
theorem l75:(ctxOf prog shs inls its [(112,c112),(111,c111),(71,c71)] [(113,r113),(39,r39),(69,r69),(68,r68),(67,r67)]).ok:=ctxOf_cons (ctxOf_cons (ctxOf_cons (q113) (by kernel_rfl) ok71) (by kernel_rfl) ok111) (by kernel_rfl) ok112
theorem ok75:c75.ok prog 75:=Ctr.of_den l75 hmix (hl:=hints) (d:=4) func75 rfl (by decide) (e75 lpK jnK grid_Valid slices_ContainsFunc_111 grid_given_1)
noncomputable def ratio_gcd_b (lp:Lp) (_:Jn) (x0:Int) (x1:Int):Option Int :=
 lp (Int×Int×PUnit) Int (fun (again:Int×Int×PUnit->Option Int) (x:Int×Int×PUnit)=>bif !decide (x.2.1=(0:Int)) then bif nzB x.2.1 then again (x.2.1,
  Int.tmod x.1 x.2.1,PUnit.unit) else none else some x.1) (x0,x1,PUnit.unit)
noncomputable def ratio_gcd (x0:Int) (x1:Int):Option Int:=ratio_gcd_b lpK jnK x0 x1
noncomputable def c78:Ctr:=⟨[(.int .u64),(.int .u64)],[],[],.one (.int .u64),fun x _ _=>ratio_gcd x.1 x.2.1⟩
theorem e78 (lp:Lp) (jn:Jn):∀(x:TsS c78.as) (F:TsF c78.fs) (y:TsS c78.cs),ratio_gcd_b lp jn x.1 x.2.1=runC lp jn (ctxOf prog shs inls its [] [(113,r113),(39,r39),(69,r69),(68,r68),(67,r67)]) hints 4 78 f78 c78 x F y:=fun x F y=>by kernel_rfl
theorem l78:(ctxOf prog shs inls its [] [(113,r113),(39,r39),(69,r69),(68,r68),(67,r67)]).ok:=q113
theorem ok78:c78.ok prog 78:=Ctr.of_den l78 hmix (hl:=hints) (d:=4) func78 rfl (by decide) (e78 lpK jnK)
noncomputable def ratio_size_b (_:Lp) (_:Jn) (x0:Int):Option Int :=
 
 let v3:Int:=IntKind.wrap .u64 x0;bif decide (x0<(0:Int)) then some (IntKind.wrap .u64 ((0:Int) - v3)) else some v3
noncomputable def ratio_size (x0:Int):Option Int:=ratio_size_b lpK jnK x0
noncomputable def c79:Ctr:=⟨[i64],[],[],.one (.int .u64),fun x _ _=>ratio_size x.1⟩
theorem e79 (lp:Lp) (jn:Jn):∀(x:TsS c79.as) (F:TsF c79.fs) (y:TsS c79.cs),ratio_size_b lp jn x.1=runC lp jn (ctxOf prog shs inls its [] [(113,r113),(39,r39),(69,r69),(68,r68),(67,r67)]) hints 4 79 f79 c79 x F y:=fun x F y=>by kernel_rfl
theorem l79:(ctxOf prog shs inls its [] [(113,r113),(39,r39),(69,r69),(68,r68),(67,r67)]).ok:=q113
theorem ok79:c79.ok prog 79:=Ctr.of_den l79 hmix (hl:=hints) (d:=4) func79 rfl (by decide) (e79 lpK jnK)
noncomputable def ratio_Valid_b (_:Lp) (_:Jn) (ratio_gcd:(Int)->(Int)->Option (Int)) (ratio_size:(Int)->Option (Int)) (x0:Int×Int):Option Bool :=
 
 let v3:Bool:=decide (x0.2>=(1:Int));
 let v4:Bool:=!v3||v3;
 let v5:Bool:=bif v3 then decide (x0.2<=(1152921504606846976:Int)) else false;
 let v6:Bool:=bif v5 then decide (x0.1>=(-1152921504606846976:Int)) else false;
 let v7:Bool:=!v5||v5;
 let v8:Bool:=bif v6 then decide (x0.1<=(1152921504606846976:Int)) else false;
 let v9:Bool:=!v6||v6;
 let v10:Bool:=!v8||v8;bif v4 then bif v4 then bif v4 then bif v7 then bif v7 then bif v7 then bif v9 then bif v9 then bif v9 then bif v10 then bif v10 then obind (bif v8 then
  ratio_size x0.1 else some (0:Int)) fun (t:Int)=>bif v10 then bif v10 then bif v10&&v10 then obind (bif v8 then ratio_gcd t (IntKind.wrap .u64 x0.2) else some (0 :
  Int)) fun (t:Int)=>bif v10 then bif v10 then some (bif v8 then decide (t=(1:Int)) else false) else none else none else none else none else none else none else none else none
  else none else none else none else none else none else none else none else none
noncomputable def ratio_Valid (x0:Int×Int):Option Bool:=ratio_Valid_b lpK jnK ratio_gcd ratio_size x0
noncomputable def c45:Ctr:=⟨[T50],[],[],.one .bool,fun x _ _=>ratio_Valid x.1⟩
theorem e45 (lp:Lp) (jn:Jn) (ratio_gcd:(Int)->(Int)->Option (Int)) (ratio_size:(Int)->Option (Int)):∀(x:TsS c45.as) (F:TsF c45.fs) (y:TsS c45.cs),ratio_Valid_b lp jn ratio_gcd ratio_size x.1=runC lp jn (ctxOf prog shs inls its [(79,⟨[i64],[],[],.one (.int .u64),fun x _ _=>ratio_size x.1⟩),(78,⟨[(.int .u64),(.int .u64)],[],[],.one (.int .u64),fun x _ _=>ratio_gcd x.1 x.2.1⟩)] [(113,r113),(39,r39),(69,r69),(68,r68),(67,r67)]) hints 4 45 f45 c45 x F y:=fun x F y=>by kernel_rfl
theorem l45:(ctxOf prog shs inls its [(79,c79),(78,c78)] [(113,r113),(39,r39),(69,r69),(68,r68),(67,r67)]).ok:=ctxOf_cons (ctxOf_cons (q113) (by kernel_rfl) ok78) (by kernel_rfl) ok79
theorem ok45:c45.ok prog 45:=Ctr.of_den l45 hmix (hl:=hints) (d:=4) func45 rfl (by decide) (e45 lpK jnK ratio_gcd ratio_size)
noncomputable def ratio_product_b (_:Lp) (_:Jn) (bits_Mul64:(Int)->(Int)->Option (Int×Int×Unit)) (x0:Int) (x1:Int):Option (Int×Int) :=
 obind (bits_Mul64 x0 x1) fun (t:Int×Int×PUnit)=>some (t.1,t.2.1)
noncomputable def ratio_product (x0:Int) (x1:Int):Option (Int×Int):=ratio_product_b lpK jnK bits_Mul64 x0 x1
noncomputable def c80:Ctr:=⟨[(.int .u64),(.int .u64)],[],[],.one T136,fun x _ _=>ratio_product x.1 x.2.1⟩
theorem e80 (lp:Lp) (jn:Jn) (bits_Mul64:(Int)->(Int)->Option (Int×Int×Unit)):∀(x:TsS c80.as) (F:TsF c80.fs) (y:TsS c80.cs),ratio_product_b lp jn bits_Mul64 x.1 x.2.1=runC lp jn (ctxOf prog shs inls its [(118,⟨[(.int .u64),(.int .u64)],[],[],.tup [(.int .u64),(.int .u64)],fun x _ _=>bits_Mul64 x.1 x.2.1⟩)] [(113,r113),(39,r39),(69,r69),(68,r68),(67,r67)]) hints 4 80 f80 c80 x F y:=fun x F y=>by kernel_rfl
theorem l80:(ctxOf prog shs inls its [(118,c118)] [(113,r113),(39,r39),(69,r69),(68,r68),(67,r67)]).ok:=ctxOf_cons (q113) (by kernel_rfl) ok118
theorem ok80:c80.ok prog 80:=Ctr.of_den l80 hmix (hl:=hints) (d:=4) func80 rfl (by decide) (e80 lpK jnK bits_Mul64)
noncomputable def ratio_plus_b (_:Lp) (_:Jn) (x0:Int×Int) (x1:Int×Int):Option (Int×Int) :=
 bif decide ((0:Int)<=(0:Int))&&decide ((0:Int)<=(1:Int)) then bif decide ((0:Int)<=addC x0.2 x1.2 (0:Int))&&decide (addC x0.2 x1.2 (0:Int)<=(1:Int)) then
  some (addO x0.1 x1.1 (addC x0.2 x1.2 (0:Int)),addO x0.2 x1.2 (0:Int)) else none else none
noncomputable def ratio_plus (x0:Int×Int) (x1:Int×Int):Option (Int×Int):=ratio_plus_b lpK jnK x0 x1
noncomputable def c81:Ctr:=⟨[T136,T136],[],[],.one T136,fun x _ _=>ratio_plus x.1 x.2.1⟩
theorem e81 (lp:Lp) (jn:Jn):∀(x:TsS c81.as) (F:TsF c81.fs) (y:TsS c81.cs),ratio_plus_b lp jn x.1 x.2.1=runC lp jn (ctxOf prog shs inls its [] [(113,r113),(39,r39),(69,r69),(68,r68),(67,r67)]) hints 4 81 f81 c81 x F y:=fun x F y=>by kernel_rfl
theorem l81:(ctxOf prog shs inls its [] [(113,r113),(39,r39),(69,r69),(68,r68),(67,r67)]).ok:=q113
theorem ok81:c81.ok prog 81:=Ctr.of_den l81 hmix (hl:=hints) (d:=4) func81 rfl (by decide) (e81 lpK jnK)
noncomputable def ratio_less_b (_:Lp) (_:Jn) (x0:Int×Int) (x1:Int×Int):Option Bool :=
 
 let v4:Bool:=decide (x0.1=x1.1);
 let v5:Bool:=decide (x0.1<x1.1);
 let v6:Bool:=!v5;
 let v7:Bool:=!v6;
 let v8:Bool:=v6&&v4;
 let v9:Bool:=v7||v6;
 let v10:Bool:=!v8||v8;bif v9 then bif v9 then bif v9&&v9 then bif v9 then bif v10 then bif v10 then bif v10&&v10 then bif (v7||v9)&&(v7||(!v4||(v7||v8))) then bif v5
  || v6 then some (bif v5 then true else bif v4 then decide (x0.2<x1.2) else false) else none else none else none else none else none else none else none else none else none
noncomputable def ratio_less (x0:Int×Int) (x1:Int×Int):Option Bool:=ratio_less_b lpK jnK x0 x1
noncomputable def c82:Ctr:=⟨[T136,T136],[],[],.one .bool,fun x _ _=>ratio_less x.1 x.2.1⟩
theorem e82 (lp:Lp) (jn:Jn):∀(x:TsS c82.as) (F:TsF c82.fs) (y:TsS c82.cs),ratio_less_b lp jn x.1 x.2.1=runC lp jn (ctxOf prog shs inls its [] [(113,r113),(39,r39),(69,r69),(68,r68),(67,r67)]) hints 4 82 f82 c82 x F y:=fun x F y=>by kernel_rfl
theorem l82:(ctxOf prog shs inls its [] [(113,r113),(39,r39),(69,r69),(68,r68),(67,r67)]).ok:=q113
theorem ok82:c82.ok prog 82:=Ctr.of_den l82 hmix (hl:=hints) (d:=4) func82 rfl (by decide) (e82 lpK jnK)
noncomputable def ratio_minus_b (_:Lp) (_:Jn) (x0:Int×Int) (x1:Int×Int):Option (Int×Int) :=
 bif decide ((0:Int)<=(0:Int))&&decide ((0:Int)<=(1:Int)) then bif decide ((0:Int)<=subC x0.2 x1.2 (0:Int))&&decide (subC x0.2 x1.2 (0:Int)<=(1:Int)) then
  some (subO x0.1 x1.1 (subC x0.2 x1.2 (0:Int)),subO x0.2 x1.2 (0:Int)) else none else none
noncomputable def ratio_minus (x0:Int×Int) (x1:Int×Int):Option (Int×Int):=ratio_minus_b lpK jnK x0 x1
noncomputable def c83:Ctr:=⟨[T136,T136],[],[],.one T136,fun x _ _=>ratio_minus x.1 x.2.1⟩
theorem e83 (lp:Lp) (jn:Jn):∀(x:TsS c83.as) (F:TsF c83.fs) (y:TsS c83.cs),ratio_minus_b lp jn x.1 x.2.1=runC lp jn (ctxOf prog shs inls its [] [(113,r113),(39,r39),(69,r69),(68,r68),(67,r67)]) hints 4 83 f83 c83 x F y:=fun x F y=>by kernel_rfl
theorem l83:(ctxOf prog shs inls its [] [(113,r113),(39,r39),(69,r69),(68,r68),(67,r67)]).ok:=q113
theorem ok83:c83.ok prog 83:=Ctr.of_den l83 hmix (hl:=hints) (d:=4) func83 rfl (by decide) (e83 lpK jnK)
noncomputable def bits_LeadingZeros64_b (_:Lp) (_:Jn) (bits_Len64:(Int)->Option (Int)) (x0:Int):Option Int :=
 obind (bits_Len64 x0) fun (t:Int)=>some (IntKind.wrap .i64 ((64:Int) - t))
noncomputable def bits_LeadingZeros64 (x0:Int):Option Int:=bits_LeadingZeros64_b lpK jnK bits_Len64 x0
noncomputable def c135:Ctr:=⟨[(.int .u64)],[],[],.one i64,fun x _ _=>bits_LeadingZeros64 x.1⟩
theorem e135 (lp:Lp) (jn:Jn) (bits_Len64:(Int)->Option (Int)):∀(x:TsS c135.as) (F:TsF c135.fs) (y:TsS c135.cs),bits_LeadingZeros64_b lp jn bits_Len64 x.1=runC lp jn (ctxOf prog shs inls its [(141,⟨[(.int .u64)],[],[],.one i64,fun x _ _=>bits_Len64 x.1⟩)] [(113,r113),(39,r39),(69,r69),(68,r68),(67,r67)]) hints 4 135 f135 c135 x F y:=fun x F y=>by kernel_rfl
theorem l135:(ctxOf prog shs inls its [(141,c141)] [(113,r113),(39,r39),(69,r69),(68,r68),(67,r67)]).ok:=ctxOf_cons (q113) (by kernel_rfl) ok141
theorem ok135:c135.ok prog 135:=Ctr.of_den l135 hmix (hl:=hints) (d:=4) func135 rfl (by decide) (e135 lpK jnK bits_Len64)
noncomputable def bits_Div64_b (lp:Lp) (jn:Jn) (bits_LeadingZeros64:(Int)->Option (Int)) (x0:Int) (x1:Int) (x2:Int):Option (Int×Int×Unit) :=
 
 let v5:Bool:=nzB x2;
 let v6:Int:=(2:Int) ^ (32:Nat);
 let v7:Bool:=decide ((0:Int)<=(32:Int));jn PUnit (Int×Int×PUnit) (fun (_:PUnit)=>jn PUnit (Int×Int×PUnit) (fun (_:PUnit)=>bif decide (x0=(0:Int)) then bif v5
  then bif v5 then some (IntKind.wrap .u64 (Int.tdiv x1 x2),Int.tmod x1 x2,PUnit.unit) else none else none else obind (bits_LeadingZeros64 x2) fun (t:Int) =>
 let v11:Int:=IntKind.wrap .u64 t;
 let v12:Bool:=decide ((0:Int)<=v11);
 let v13:Int:=(2:Int) ^ min (Int.toNat v11) (64:Nat);
 let v14:Int:=IntKind.wrap .u64 (x2*v13);
 let v15:Int:=IntKind.wrap .u64 (x1*v13);
 let v16:Int:=Int.fdiv v14 v6;
 let v17:Int:=Int.fdiv v15 v6;
 let v18:Bool:=nzB v16;
 let v19:Int:=IntKind.wrap .u64 (↑(Nat.land (Int.toNat (v15 % Int.ofNat (18446744073709551616:Nat))) (Int.toNat ((4294967295:Int) % Int.ofNat (18446744073709551616:Nat))))
  : Int);
 let v20:Int:=IntKind.wrap .u64 (↑(Nat.land (Int.toNat (v14 % Int.ofNat (18446744073709551616:Nat))) (Int.toNat ((4294967295:Int) % Int.ofNat (18446744073709551616:Nat))))
  : Int);
 let v21:Int:=IntKind.wrap .u64 (↑(Nat.lor (Int.toNat (IntKind.wrap .u64 (x0*v13) % Int.ofNat (18446744073709551616:Nat))) (Int.toNat (Int.fdiv x1 ((2:Int) ^ min
  (Int.toNat (IntKind.wrap .u64 ((64:Int) - v11))) (64:Nat)) % Int.ofNat (18446744073709551616:Nat)))):Int);
 let v22:Int:=IntKind.wrap .u64 (Int.tdiv v21 v16);bif v12 then bif v7 then bif v12 then bif decide ((0:Int)<=IntKind.wrap .u64 ((64:Int) - v11)) then bif v12 then
  bif v7 then bif v18 then jn (Int×PUnit) (Int×Int×PUnit) (fun (x:Int×PUnit) =>
 let v24:Int:=IntKind.wrap .u64 (IntKind.wrap .u64 (IntKind.wrap .u64 (v21*(4294967296:Int))+v17) - IntKind.wrap .u64 (x.1*v14));
 let v25:Int:=IntKind.wrap .u64 (Int.tdiv v24 v16);bif v18 then jn (Int×PUnit) (Int×Int×PUnit) (fun (x_1:Int×PUnit)=>bif v12 then some (IntKind.wrap .u64
  (IntKind.wrap .u64 (x.1*(4294967296:Int))+x_1.1),Int.fdiv (IntKind.wrap .u64 (IntKind.wrap .u64 (IntKind.wrap .u64 (v24*(4294967296:Int)) +
  v19) - IntKind.wrap .u64 (x_1.1*v14))) v13,PUnit.unit) else none) fun (j:Int×PUnit->Option (Int×Int×PUnit))=>lp (Int×Int×PUnit) (Int×Int×PUnit) (fun
  (again:Int×Int×PUnit->Option (Int×Int×PUnit)) (x:Int×Int×PUnit) =>
 let v29:Int×PUnit:=(IntKind.wrap .u64 (x.2.1 - (1:Int)),PUnit.unit);
 let v30:Bool:=decide (x.2.1>=(4294967296:Int));
 let v31:Bool:=!v30;
 let v32:Bool:=!v31||v31;
 let v33:Bool:=v32&&v32;bif v33 then bif v32 then bif v33 then bif v33 then bif v30||v31 then bif bif v30 then true else decide (IntKind.wrap .u64 (x.2.1*v20) >
  IntKind.wrap .u64 (IntKind.wrap .u64 ((4294967296:Int)*x.1)+v19)) then bif decide (IntKind.wrap .u64 (x.1+v16)>=(4294967296:Int)) then j v29 else
  again (IntKind.wrap .u64 (x.1+v16),v29) else j (x.2.1,PUnit.unit) else none else none else none else none else none) (IntKind.wrap .u64 (v24 - IntKind.wrap
  IntKind.u64 (v25*v16)),v25,PUnit.unit) else none) fun (j:Int×PUnit->Option (Int×Int×PUnit))=>lp (Int×Int×PUnit) (Int×Int×PUnit) (fun (again:Int×Int×PUnit ->
  Option (Int×Int×PUnit)) (x:Int×Int×PUnit) =>
 let v26:Int:=IntKind.wrap .u64 (x.1 - (1:Int));
 let v27:Bool:=decide (x.1>=(4294967296:Int));
 let v28:Bool:=!v27;
 let v29:Bool:=!v28||v28;
 let v30:Bool:=v29&&v29;bif v30 then bif v29 then bif v30 then bif v30 then bif v27||v28 then bif bif v27 then true else decide (IntKind.wrap .u64 (x.1*v20) >
  IntKind.wrap .u64 (IntKind.wrap .u64 ((4294967296:Int)*x.2.1)+v17)) then bif decide (IntKind.wrap .u64 (x.2.1+v16)>=(4294967296:Int)) then j
  (v26,PUnit.unit) else again (v26,IntKind.wrap .u64 (x.2.1+v16),PUnit.unit) else j (x.1,PUnit.unit) else none else none else none else none else none) (v22,
  IntKind.wrap .u64 (v21 - IntKind.wrap .u64 (v22*v16)),PUnit.unit) else none else none else none else none else none else none else none) fun (j:PUnit->Option (Int ×
  Int×PUnit))=>bif decide (x2<=x0) then none else j PUnit.unit) fun (j:PUnit->Option (Int×Int×PUnit))=>bif decide (x2=(0:Int)) then none else j PUnit.unit
noncomputable def bits_Div64 (x0:Int) (x1:Int) (x2:Int):Option (Int×Int×Unit):=bits_Div64_b lpK jnK bits_LeadingZeros64 x0 x1 x2
noncomputable def c121:Ctr:=⟨[(.int .u64),(.int .u64),(.int .u64)],[],[],.tup [(.int .u64),(.int .u64)],fun x _ _=>bits_Div64 x.1 x.2.1 x.2.2.1⟩
theorem e121 (lp:Lp) (jn:Jn) (bits_LeadingZeros64:(Int)->Option (Int)):∀(x:TsS c121.as) (F:TsF c121.fs) (y:TsS c121.cs),bits_Div64_b lp jn bits_LeadingZeros64 x.1 x.2.1 x.2.2.1=runC lp jn (ctxOf prog shs inls its [(135,⟨[(.int .u64)],[],[],.one i64,fun x _ _=>bits_LeadingZeros64 x.1⟩)] [(113,r113),(39,r39),(69,r69),(68,r68),(67,r67)]) hints 4 121 f121 c121 x F y:=fun x F y=>by kernel_rfl
theorem l121:(ctxOf prog shs inls its [(135,c135)] [(113,r113),(39,r39),(69,r69),(68,r68),(67,r67)]).ok:=ctxOf_cons (q113) (by kernel_rfl) ok135
theorem ok121:c121.ok prog 121:=Ctr.of_den l121 hmix (hl:=hints) (d:=4) func121 rfl (by decide) (e121 lpK jnK bits_LeadingZeros64)
noncomputable def ratio_over_b (_:Lp) (_:Jn) (bits_Div64:(Int)->(Int)->(Int)->Option (Int×Int×Unit)) (x0:Int×Int) (x1:Int):Option ((Int×Int)×Int×Unit) :=
 
 let v4:Bool:=nzB x1;bif v4 then obind (bits_Div64 (Int.tmod x0.1 x1) x0.2 x1) fun (t:Int×Int×PUnit)=>bif v4 then some ((IntKind.wrap .u64 (Int.tdiv x0.1 x1),
  t.1),t.2.1,PUnit.unit) else none else none
noncomputable def ratio_over (x0:Int×Int) (x1:Int):Option ((Int×Int)×Int×Unit):=ratio_over_b lpK jnK bits_Div64 x0 x1
noncomputable def c84:Ctr:=⟨[T136,(.int .u64)],[],[],.tup [T136,(.int .u64)],fun x _ _=>ratio_over x.1 x.2.1⟩
theorem e84 (lp:Lp) (jn:Jn) (bits_Div64:(Int)->(Int)->(Int)->Option (Int×Int×Unit)):∀(x:TsS c84.as) (F:TsF c84.fs) (y:TsS c84.cs),ratio_over_b lp jn bits_Div64 x.1 x.2.1=runC lp jn (ctxOf prog shs inls its [(121,⟨[(.int .u64),(.int .u64),(.int .u64)],[],[],.tup [(.int .u64),(.int .u64)],fun x _ _=>bits_Div64 x.1 x.2.1 x.2.2.1⟩)] [(113,r113),(39,r39),(69,r69),(68,r68),(67,r67)]) hints 4 84 f84 c84 x F y:=fun x F y=>by kernel_rfl
theorem l84:(ctxOf prog shs inls its [(121,c121)] [(113,r113),(39,r39),(69,r69),(68,r68),(67,r67)]).ok:=ctxOf_cons (q113) (by kernel_rfl) ok121
theorem ok84:c84.ok prog 84:=Ctr.of_den l84 hmix (hl:=hints) (d:=4) func84 rfl (by decide) (e84 lpK jnK bits_Div64)
noncomputable def ratio_signed_b (_:Lp) (_:Jn) (x0:Bool) (x1:Int) (x2:Int):Option ((Int×Int)×Int×Unit) :=
 
 let v5:Int:=IntKind.wrap .i64 x1;
 let v6:Int:=IntKind.wrap .i64 x2;
 let v7:Bool:=decide (x1>(1152921504606846976:Int));
 let v8:Bool:=!v7;bif !v8||v8 then bif v7||v8 then bif bif v7 then true else decide (x2>(1152921504606846976:Int)) then some (((0:Int),(0:Int)),(5:Int),PUnit.unit)
  else bif x0 then some ((IntKind.wrap .i64 ((0:Int) - v5),v6),(0:Int),PUnit.unit) else some ((v5,v6),(0:Int),PUnit.unit) else none else none
noncomputable def ratio_signed (x0:Bool) (x1:Int) (x2:Int):Option ((Int×Int)×Int×Unit):=ratio_signed_b lpK jnK x0 x1 x2
noncomputable def c85:Ctr:=⟨[.bool,(.int .u64),(.int .u64)],[],[],.tup [T50,i64],fun x _ _=>ratio_signed x.1 x.2.1 x.2.2.1⟩
theorem e85 (lp:Lp) (jn:Jn):∀(x:TsS c85.as) (F:TsF c85.fs) (y:TsS c85.cs),ratio_signed_b lp jn x.1 x.2.1 x.2.2.1=runC lp jn (ctxOf prog shs inls its [] [(113,r113),(39,r39),(69,r69),(68,r68),(67,r67)]) hints 4 85 f85 c85 x F y:=fun x F y=>by kernel_rfl
theorem l85:(ctxOf prog shs inls its [] [(113,r113),(39,r39),(69,r69),(68,r68),(67,r67)]).ok:=q113
theorem ok85:c85.ok prog 85:=Ctr.of_den l85 hmix (hl:=hints) (d:=4) func85 rfl (by decide) (e85 lpK jnK)
noncomputable def ratio_Add_b (_:Lp) (jn:Jn) (ratio_gcd:(Int)->(Int)->Option (Int)) (ratio_size:(Int)->Option (Int)) (ratio_Valid:(Int×Int)->Option (Bool)) (ratio_product:(Int)->(Int)->Option (Int×Int)) (ratio_plus:(Int×Int)->(Int×Int)->Option (Int×Int)) (ratio_less:(Int×Int)->(Int×Int)->Option (Bool)) (ratio_minus:(Int×Int)->(Int×Int)->Option (Int×Int)) (ratio_over:(Int×Int)->(Int)->Option ((Int×Int)×Int×Unit)) (ratio_signed:(Bool)->(Int)->(Int)->Option ((Int×Int)×Int×Unit)) (x0:Int×Int) (x1:Int×Int):Option ((Int×Int)×Int×Unit) :=
 
 let v4:Int:=IntKind.wrap .u64 x0.2;
 let v5:Int:=IntKind.wrap .u64 x1.2;
 let v6:Bool:=decide (x0.1<(0:Int));obind (ratio_Valid x0) fun (t:Bool) =>
 let v8:Bool:=!t;
 let v9:Bool:=!v8;
 let v10:Bool:=!v9||v9;bif v10 then obind (bif v9 then ratio_Valid x1 else some false) fun (t:Bool)=>bif v10 then bif v8||v9 then bif bif v8 then true else !t then some (((0 :
  Int),(0:Int)),(1:Int),PUnit.unit) else obind (ratio_gcd v4 v5) fun (t:Int) =>
 let v13:Bool:=nzB t;
 let v14:Int:=IntKind.wrap .u64 (Int.tdiv v4 t);obind (ratio_size x0.1) fun (t_1:Int)=>bif v13 then obind (ratio_product t_1 (IntKind.wrap .u64 (Int.tdiv v5 t)))
  fun (t_2:Int×Int)=>obind (ratio_size x1.1) fun (t_3:Int)=>bif v13 then obind (ratio_product t_3 v14) fun (t_4:Int×Int)=>jn (Bool×(Int×Int)×PUnit) ((Int×Int) ×
  Int×PUnit) (fun (x:Bool×(Int×Int)×PUnit)=>bif decide (x.2.1.1=(0:Int))&&(decide (x.2.1.2=(0:Int))&&true) then some (((0:Int),(1:Int)),(0 :
  Int),PUnit.unit) else obind (ratio_over x.2.1 t) fun (t_5:(Int×Int)×Int×PUnit)=>obind (ratio_gcd t t_5.2.1) fun (t:Int)=>obind (ratio_over x.2.1 t) fun (t_6 :
  (Int×Int)×Int×PUnit) =>
 let v23:Bool:=decide (t_6.1.1>(0:Int));
 let v24:Bool:=!v23;
 let v25:Bool:=!v24||v24;bif v13 then bif nzB t then obind (ratio_product v14 (IntKind.wrap .u64 (Int.tdiv v5 t))) fun (t:Int×Int)=>bif v25 then bif v25 then bif v23 ||
  v24 then bif bif v23 then true else decide (t.1>(0:Int)) then some (((0:Int),(0:Int)),(5:Int),PUnit.unit) else obind (ratio_signed x.1 t_6.1.2 t.2) fun (t:(Int
  × Int)×Int×PUnit)=>some (t.1,t.2.1,PUnit.unit) else none else none else none else none else none) fun (j:Bool×(Int×Int)×PUnit->Option ((Int×Int)×Int×PUnit))
  =>bif decide (v6=decide (x1.1<(0:Int))) then obind (ratio_plus t_2 t_4) fun (t:Int×Int)=>j (v6,t,PUnit.unit) else obind (ratio_less t_2 t_4) fun (t:Bool)=>jn (Bool
  × (Int×Int)×PUnit) ((Int×Int)×Int×PUnit) (fun (x:Bool×(Int×Int)×PUnit)=>j (x.1,x.2.1,PUnit.unit)) fun (j:Bool×(Int×Int)×PUnit->Option ((Int×Int) ×
  Int×PUnit))=>bif t then obind (ratio_minus t_4 t_2) fun (t:Int×Int)=>j (!v6,t,PUnit.unit) else obind (ratio_minus t_2 t_4) fun (t:Int×Int)=>j (v6,t,PUnit.unit) else
  none else none else none else none else none
noncomputable def ratio_Add (x0:Int×Int) (x1:Int×Int):Option ((Int×Int)×Int×Unit):=ratio_Add_b lpK jnK ratio_gcd ratio_size ratio_Valid ratio_product ratio_plus ratio_less ratio_minus ratio_over ratio_signed x0 x1
noncomputable def c46:Ctr:=⟨[T50,T50],[],[],.tup [T50,i64],fun x _ _=>ratio_Add x.1 x.2.1⟩
theorem e46 (lp:Lp) (jn:Jn) (ratio_gcd:(Int)->(Int)->Option (Int)) (ratio_size:(Int)->Option (Int)) (ratio_Valid:(Int×Int)->Option (Bool)) (ratio_product:(Int)->(Int)->Option (Int×Int)) (ratio_plus:(Int×Int)->(Int×Int)->Option (Int×Int)) (ratio_less:(Int×Int)->(Int×Int)->Option (Bool)) (ratio_minus:(Int×Int)->(Int×Int)->Option (Int×Int)) (ratio_over:(Int×Int)->(Int)->Option ((Int×Int)×Int×Unit)) (ratio_signed:(Bool)->(Int)->(Int)->Option ((Int×Int)×Int×Unit)):∀(x:TsS c46.as) (F:TsF c46.fs) (y:TsS c46.cs),ratio_Add_b lp jn ratio_gcd ratio_size ratio_Valid ratio_product ratio_plus ratio_less ratio_minus ratio_over ratio_signed x.1 x.2.1=runC lp jn (ctxOf prog shs inls its [(85,⟨[.bool,(.int .u64),(.int .u64)],[],[],.tup [T50,i64],fun x _ _=>ratio_signed x.1 x.2.1 x.2.2.1⟩),(84,⟨[T136,(.int .u64)],[],[],.tup [T136,(.int .u64)],fun x _ _=>ratio_over x.1 x.2.1⟩),(83,⟨[T136,T136],[],[],.one T136,fun x _ _=>ratio_minus x.1 x.2.1⟩),(82,⟨[T136,T136],[],[],.one .bool,fun x _ _=>ratio_less x.1 x.2.1⟩),(81,⟨[T136,T136],[],[],.one T136,fun x _ _=>ratio_plus x.1 x.2.1⟩),(80,⟨[(.int .u64),(.int .u64)],[],[],.one T136,fun x _ _=>ratio_product x.1 x.2.1⟩),(45,⟨[T50],[],[],.one .bool,fun x _ _=>ratio_Valid x.1⟩),(79,⟨[i64],[],[],.one (.int .u64),fun x _ _=>ratio_size x.1⟩),(78,⟨[(.int .u64),(.int .u64)],[],[],.one (.int .u64),fun x _ _=>ratio_gcd x.1 x.2.1⟩)] [(113,r113),(39,r39),(69,r69),(68,r68),(67,r67)]) hints 4 46 f46 c46 x F y:=fun x F y=>by kernel_rfl
theorem l46:(ctxOf prog shs inls its [(85,c85),(84,c84),(83,c83),(82,c82),(81,c81),(80,c80),(45,c45),(79,c79),(78,c78)] [(113,r113),(39,r39),(69,r69),(68,r68),(67,r67)]).ok:=ctxOf_cons (ctxOf_cons (ctxOf_cons (ctxOf_cons (ctxOf_cons (ctxOf_cons (ctxOf_cons (ctxOf_cons (ctxOf_cons (q113) (by kernel_rfl) ok78) (by kernel_rfl) ok79) (by kernel_rfl) ok45) (by kernel_rfl) ok80) (by kernel_rfl) ok81) (by kernel_rfl) ok82) (by kernel_rfl) ok83) (by kernel_rfl) ok84) (by kernel_rfl) ok85
theorem ok46:c46.ok prog 46:=Ctr.of_den l46 hmix (hl:=hints) (d:=4) func46 rfl (by decide) (e46 lpK jnK ratio_gcd ratio_size ratio_Valid ratio_product ratio_plus ratio_less ratio_minus ratio_over ratio_signed)
noncomputable def grid_of_b (_:Lp) (_:Jn) (x0:Int):Option (Int×Int) :=
 some (x0,(1:Int))
noncomputable def grid_of (x0:Int):Option (Int×Int):=grid_of_b lpK jnK x0
noncomputable def c114:Ctr:=⟨[i64],[],[],.one T50,fun x _ _=>grid_of x.1⟩
theorem e114 (lp:Lp) (jn:Jn):∀(x:TsS c114.as) (F:TsF c114.fs) (y:TsS c114.cs),grid_of_b lp jn x.1=runC lp jn (ctxOf prog shs inls its [] [(113,r113),(39,r39),(69,r69),(68,r68),(67,r67)]) hints 4 114 f114 c114 x F y:=fun x F y=>by kernel_rfl
theorem l114:(ctxOf prog shs inls its [] [(113,r113),(39,r39),(69,r69),(68,r68),(67,r67)]).ok:=q113
theorem ok114:c114.ok prog 114:=Ctr.of_den l114 hmix (hl:=hints) (d:=4) func114 rfl (by decide) (e114 lpK jnK)
noncomputable def grid_beams_count_b (lp:Lp) (_:Jn) (x0:List (ByteArray×Int×Int×Int)) (x1:Int):Option Int :=
 bif (overP x0) then lp (Nat×Int×PUnit) Int (fun (again:Nat×Int×PUnit->Option Int) (p:Nat×Int×PUnit)=>bif Nat.ble (Nat.succ p.1)
  (List.length (overL x0 x1)) then again (Nat.succ p.1,IntKind.wrap .i64 (p.2.1+(1:Int)),PUnit.unit) else some p.2.1) ((0:Nat),(0:Int),PUnit.unit)
  else none
noncomputable def grid_beams_count (x0:List (ByteArray×Int×Int×Int)) (x1:Int):Option Int:=grid_beams_count_b lpK jnK x0 x1
noncomputable def c115:Ctr:=⟨[(.sl T68),i64],[],[],.one i64,fun x _ _=>grid_beams_count x.1 x.2.1⟩
theorem e115 (lp:Lp) (jn:Jn):∀(x:TsS c115.as) (F:TsF c115.fs) (y:TsS c115.cs),grid_beams_count_b lp jn x.1 x.2.1=runC lp jn (ctxOf prog shs inls its [] [(113,r113),(39,r39),(69,r69),(68,r68),(67,r67)]) hints 4 115 f115 c115 x F y:=fun x F y=>by kernel_rfl
theorem l115:(ctxOf prog shs inls its [] [(113,r113),(39,r39),(69,r69),(68,r68),(67,r67)]).ok:=q113
theorem ok115:c115.ok prog 115:=Ctr.of_den l115 hmix (hl:=hints) (d:=4) func115 rfl (by decide) (e115 lpK jnK)
noncomputable def ratio_Make_b (_:Lp) (_:Jn) (ratio_gcd:(Int)->(Int)->Option (Int)) (ratio_size:(Int)->Option (Int)) (ratio_signed:(Bool)->(Int)->(Int)->Option ((Int×Int)×Int×Unit)) (x0:Int) (x1:Int):Option ((Int×Int)×Int×Unit) :=
 
 let v4:Bool:=!decide (x0=(0:Int));
 let v5:Bool:=!v4||v4;bif decide (x1=(0:Int)) then some (((0:Int),(0:Int)),(16:Int),PUnit.unit) else obind (ratio_size x0) fun (t:Int)=>obind (ratio_size x1) fun
  (t_1:Int)=>obind (ratio_gcd t t_1) fun (t_2:Int) =>
 let v9:Bool:=nzB t_2;bif v5 then bif v5 then bif v5&&v5 then bif v5 then bif v9 then bif v9 then obind (ratio_signed (bif v4 then !decide (decide (x0<(0:Int))=decide (x1<(0
  : Int))) else false) (IntKind.wrap .u64 (Int.tdiv t t_2)) (IntKind.wrap .u64 (Int.tdiv t_1 t_2))) fun (t:(Int×Int)×Int×PUnit)=>some (t.1,t.2.1,
  PUnit.unit) else none else none else none else none else none else none
noncomputable def ratio_Make (x0:Int) (x1:Int):Option ((Int×Int)×Int×Unit):=ratio_Make_b lpK jnK ratio_gcd ratio_size ratio_signed x0 x1
noncomputable def c116:Ctr:=⟨[i64,i64],[],[],.tup [T50,i64],fun x _ _=>ratio_Make x.1 x.2.1⟩
theorem e116 (lp:Lp) (jn:Jn) (ratio_gcd:(Int)->(Int)->Option (Int)) (ratio_size:(Int)->Option (Int)) (ratio_signed:(Bool)->(Int)->(Int)->Option ((Int×Int)×Int×Unit)):∀(x:TsS c116.as) (F:TsF c116.fs) (y:TsS c116.cs),ratio_Make_b lp jn ratio_gcd ratio_size ratio_signed x.1 x.2.1=runC lp jn (ctxOf prog shs inls its [(85,⟨[.bool,(.int .u64),(.int .u64)],[],[],.tup [T50,i64],fun x _ _=>ratio_signed x.1 x.2.1 x.2.2.1⟩),(79,⟨[i64],[],[],.one (.int .u64),fun x _ _=>ratio_size x.1⟩),(78,⟨[(.int .u64),(.int .u64)],[],[],.one (.int .u64),fun x _ _=>ratio_gcd x.1 x.2.1⟩)] [(113,r113),(39,r39),(69,r69),(68,r68),(67,r67)]) hints 4 116 f116 c116 x F y:=fun x F y=>by kernel_rfl
theorem l116:(ctxOf prog shs inls its [(85,c85),(79,c79),(78,c78)] [(113,r113),(39,r39),(69,r69),(68,r68),(67,r67)]).ok:=ctxOf_cons (ctxOf_cons (ctxOf_cons (q113) (by kernel_rfl) ok78) (by kernel_rfl) ok79) (by kernel_rfl) ok85
theorem ok116:c116.ok prog 116:=Ctr.of_den l116 hmix (hl:=hints) (d:=4) func116 rfl (by decide) (e116 lpK jnK ratio_gcd ratio_size ratio_signed)
noncomputable def grid_borne_b (lp:Lp) (_:Jn) (ratio_Add:(Int×Int)->(Int×Int)->Option ((Int×Int)×Int×Unit)) (grid_of:(Int)->Option (Int×Int)) (grid_beams_count:(List (ByteArray×Int×Int×Int))->(Int)->Option (Int)) (ratio_Make:(Int)->(Int)->Option ((Int×Int)×Int×Unit)) (slices_Repeat_113:(List (Int×Int))->(Int)->Option (List (Int×Int))) (x0:List (ByteArray×Int×Int×Int)) (x1:List (Int×Int)):Option ((List (Int×Int))×Int×Unit) :=
 obind (grid_of (0:Int)) fun (t:Int×Int)=>obind (slices_Repeat_113 [t] (↑(List.length x0):Int)) fun (t:List (Int×Int))=>lp (Int×List (Int×Int)×Int×PUnit) (List (Int ×
  Int)×Int×PUnit) (fun (again:Int×List (Int×Int)×Int×PUnit->Option (List (Int×Int)×Int×PUnit)) (x:Int×List (Int×Int)×Int×PUnit)=>bif decide (x.1 <
  (↑(List.length x1):Int)) then bif inB x.1 (List.length x1) then obind (grid_beams_count x0 (List.getD x1 (Int.toNat x.1) ((0:Int),(0:Int))).1) fun (t:Int)=>bif decide
  (t=(0:Int)) then some ([],(12:Int),PUnit.unit) else again (IntKind.wrap .i64 (x.1+(1:Int)),x.2.1,x.2.2.1,PUnit.unit) else none else lp (Int×List (Int
  × Int)×Int×List (Int×Int)×PUnit) (List (Int×Int)×Int×PUnit) (fun (again:Int×List (Int×Int)×Int×List (Int×Int)×PUnit->Option (List (Int×Int)×Int ×
  PUnit)) (x:Int×List (Int×Int)×Int×List (Int×Int)×PUnit) =>
 let v10:Int×Int:=List.getD x1 (Int.toNat x.1) ((0:Int),(0:Int));
 let v11:List (Int×Unit):=overL x0 v10.1;bif decide (x.1<(↑(List.length x1):Int)) then bif inB x.1 (List.length x1) then obind (grid_beams_count x0 v10.1) fun
  (t:Int)=>obind (ratio_Make v10.2 t) fun (t:(Int×Int)×Int×PUnit)=>bif !decide (t.2.1=(0:Int)) then some ([],t.2.1,PUnit.unit) else bif (overP x0) then lp (Nat×List (Int×Int)×Int×Int×List (Int×Int)×PUnit) (List (Int×Int)×Int×PUnit) (fun (again_1:Nat×List (Int×Int)×Int×Int ×
  List (Int×Int)×PUnit->Option (List (Int×Int)×Int×PUnit)) (p:Nat×List (Int×Int)×Int×Int×List (Int×Int)×PUnit) =>
 let v16:Bool:=inB (List.getD v11 p.1 ((0:Int),PUnit.unit)).1 (List.length p.2.2.2.2.1);
 let v17:Bool:=Nat.ble (Nat.succ (Int.toNat (List.getD v11 p.1 ((0:Int),PUnit.unit)).1)) (List.length p.2.2.2.2.1);bif Nat.ble (Nat.succ p.1) (List.length v11) then
  bif v16 then bif v17 then obind (ratio_Add (List.getD p.2.2.2.2.1 (Int.toNat (List.getD v11 p.1 ((0:Int),PUnit.unit)).1) ((0:Int),(0:Int))) t.1) fun (t:(Int ×
  Int)×Int×PUnit)=>bif v16 then bif v17 then bif !decide (t.2.1=(0:Int)) then some ([],t.2.1,PUnit.unit) else again_1 (Nat.succ p.1,p.2.1,p.2.2.1,
  t.2.1,List.set p.2.2.2.2.1 (Int.toNat (List.getD v11 p.1 ((0:Int),PUnit.unit)).1) t.1,PUnit.unit) else none else none else none else none else again
  (IntKind.wrap .i64 (x.1+(1:Int)),p.2.1,p.2.2.1,p.2.2.2.2.1,PUnit.unit)) ((0:Nat),x.2.1,x.2.2.1,t.2.1,x.2.2.2.1,
  PUnit.unit) else none else none else some (x.2.2.2.1,(0:Int),PUnit.unit)) ((0:Int),x.2.1,x.2.2.1,t,PUnit.unit)) ((0:Int),[],(0:Int),PUnit.unit)
noncomputable def grid_borne (x0:List (ByteArray×Int×Int×Int)) (x1:List (Int×Int)):Option ((List (Int×Int))×Int×Unit):=grid_borne_b lpK jnK ratio_Add grid_of grid_beams_count ratio_Make slices_Repeat_113 x0 x1
noncomputable def c76:Ctr:=⟨[(.sl T68),(.sl T89)],[],[],.tup [(.sl T50),i64],fun x _ _=>grid_borne x.1 x.2.1⟩
theorem e76 (lp:Lp) (jn:Jn) (ratio_Add:(Int×Int)->(Int×Int)->Option ((Int×Int)×Int×Unit)) (grid_of:(Int)->Option (Int×Int)) (grid_beams_count:(List (ByteArray×Int×Int×Int))->(Int)->Option (Int)) (ratio_Make:(Int)->(Int)->Option ((Int×Int)×Int×Unit)) (slices_Repeat_113:(List (Int×Int))->(Int)->Option (List (Int×Int))):∀(x:TsS c76.as) (F:TsF c76.fs) (y:TsS c76.cs),grid_borne_b lp jn ratio_Add grid_of grid_beams_count ratio_Make slices_Repeat_113 x.1 x.2.1=runC lp jn (ctxOf prog shs inls its [(116,⟨[i64,i64],[],[],.tup [T50,i64],fun x _ _=>ratio_Make x.1 x.2.1⟩),(115,⟨[(.sl T68),i64],[],[],.one i64,fun x _ _=>grid_beams_count x.1 x.2.1⟩),(114,⟨[i64],[],[],.one T50,fun x _ _=>grid_of x.1⟩),(46,⟨[T50,T50],[],[],.tup [T50,i64],fun x _ _=>ratio_Add x.1 x.2.1⟩)] [(113,⟨[(.sl T50),i64],50,T50,fun x=>slices_Repeat_113 x.1 x.2.1⟩),(39,r39),(69,r69),(68,r68),(67,r67)]) hints 4 76 f76 c76 x F y:=fun x F y=>by kernel_rfl
theorem l76:(ctxOf prog shs inls its [(116,c116),(115,c115),(114,c114),(46,c46)] [(113,r113),(39,r39),(69,r69),(68,r68),(67,r67)]).ok:=ctxOf_cons (ctxOf_cons (ctxOf_cons (ctxOf_cons (q113) (by kernel_rfl) ok46) (by kernel_rfl) ok114) (by kernel_rfl) ok115) (by kernel_rfl) ok116
theorem ok76:c76.ok prog 76:=Ctr.of_den l76 hmix (hl:=hints) (d:=4) func76 rfl (by decide) (e76 lpK jnK ratio_Add grid_of grid_beams_count ratio_Make slices_Repeat_113)
noncomputable def grid_Loads_b (_:Lp) (_:Jn) (grid_given:(List (ByteArray×Int×Int×Int))->(List (Int×Int))->Option (Int)) (grid_borne:(List (ByteArray×Int×Int×Int))->(List (Int×Int))->Option ((List (Int×Int))×Int×Unit)) (x0:List (ByteArray×Int×Int×Int)) (x1:List (Int×Int)):Option ((List (Int×Int))×Int×Unit) :=
 obind (grid_given x0 x1) fun (t:Int)=>bif !decide (t=(0:Int)) then some ([],t,PUnit.unit) else obind (grid_borne x0 x1) fun (t:List (Int×Int)×Int×PUnit)=>some (t.1,
  t.2.1,PUnit.unit)
noncomputable def grid_Loads (x0:List (ByteArray×Int×Int×Int)) (x1:List (Int×Int)):Option ((List (Int×Int))×Int×Unit):=grid_Loads_b lpK jnK grid_given grid_borne x0 x1
noncomputable def c42:Ctr:=⟨[(.sl T68),(.sl T89)],[],[],.tup [(.sl T50),i64],fun x _ _=>grid_Loads x.1 x.2.1⟩
theorem e42 (lp:Lp) (jn:Jn) (grid_given:(List (ByteArray×Int×Int×Int))->(List (Int×Int))->Option (Int)) (grid_borne:(List (ByteArray×Int×Int×Int))->(List (Int×Int))->Option ((List (Int×Int))×Int×Unit)):∀(x:TsS c42.as) (F:TsF c42.fs) (y:TsS c42.cs),grid_Loads_b lp jn grid_given grid_borne x.1 x.2.1=runC lp jn (ctxOf prog shs inls its [(76,⟨[(.sl T68),(.sl T89)],[],[],.tup [(.sl T50),i64],fun x _ _=>grid_borne x.1 x.2.1⟩),(75,⟨[(.sl T68),(.sl T89)],[],[],.one i64,fun x _ _=>grid_given x.1 x.2.1⟩)] [(113,r113),(39,r39),(69,r69),(68,r68),(67,r67)]) hints 4 42 f42 c42 x F y:=fun x F y=>by kernel_rfl
theorem l42:(ctxOf prog shs inls its [(76,c76),(75,c75)] [(113,r113),(39,r39),(69,r69),(68,r68),(67,r67)]).ok:=ctxOf_cons (ctxOf_cons (q113) (by kernel_rfl) ok75) (by kernel_rfl) ok76
theorem ok42:c42.ok prog 42:=Ctr.of_den l42 hmix (hl:=hints) (d:=4) func42 rfl (by decide) (e42 lpK jnK grid_given grid_borne)
noncomputable def house_Loads_b (lp:Lp) (_:Jn) (batten_Weight:(ByteArray×Int×Int×Int×Int×(List Int)×Int×Int×Int×Int×Int×(List (ByteArray×Int×Int×Int×Int×Int×Int))×List (ByteArray×Int×Int))->Option (Int×Int×Unit)) (house_Valid:(ByteArray×Int×(List (ByteArray×Int×Int×Int×Int×(List Int)×Int×Int×Int×Int×Int×(List (ByteArray×Int×Int×Int×Int×Int×Int))×List (ByteArray×Int×Int)))×List (ByteArray×Int×Int×Int))->Option (Bool)) (arbor_Weight:(List (ByteArray×Int×Int))->(List Int)->Option (Int×Int×Unit)) (grid_Loads:(List (ByteArray×Int×Int×Int))->(List (Int×Int))->Option ((List (Int×Int))×Int×Unit)) (x0:ByteArray×Int×(List (ByteArray×Int×Int×Int×Int×(List Int)×Int×Int×Int×Int×Int×(List (ByteArray×Int×Int×Int×Int×Int×Int))×List (ByteArray×Int×Int)))×List (ByteArray×Int×Int×Int)):Option ((List (Int×Int))×Int×Unit) :=
 obind (house_Valid x0) fun (t:Bool)=>bif !t then some ([],(1:Int),PUnit.unit) else lp (List (Int×Int)×Int×PUnit) (List (Int×Int)×Int×PUnit) (fun (again:List (Int ×
  Int)×Int×PUnit->Option (List (Int×Int)×Int×PUnit)) (x:List (Int×Int)×Int×PUnit) =>
 let v6:ByteArray×Int×Int×Int×Int×List Int×Int×Int×Int×Int×Int×List (ByteArray×Int×Int×Int×Int×Int×Int)×List (ByteArray×Int×Int):=List.getD
  x0.2.2.1 (Int.toNat x.2.1) ({ data:={ toList:=[] } },(0:Int),(0:Int),(0:Int),(0:Int),[],(0:Int),(0:Int),(0:Int),(0:Int),(0:Int),[],[]);bif
  decide (x.2.1<(↑(List.length x0.2.2.1):Int)) then bif inB x.2.1 (List.length x0.2.2.1) then obind (batten_Weight v6) fun (t:Int×Int×PUnit)=>bif !decide
  (t.2.1=(0:Int)) then some ([],t.2.1,PUnit.unit) else lp (List Int×Int×PUnit) (List (Int×Int)×Int×PUnit) (fun (again_1:List Int×Int×PUnit->Option (List
  (Int×Int)×Int×PUnit)) (x_1:List Int×Int×PUnit)=>bif decide (x_1.2.1<(↑(List.length v6.2.2.2.2.2.2.2.2.2.2.2.2):Int)) then bif inB
  x_1.2.1 (List.length v6.2.2.2.2.2.2.2.2.2.2.2.2) then bif fitB (List.length x_1.1+(1:Nat)) (8:Nat) then again_1 (x_1.1++[(List.getD
  v6.2.2.2.2.2.2.2.2.2.2.2.2 (Int.toNat x_1.2.1) ({ data:={ toList:=[] } },(0:Int),(0:Int))).2.2],IntKind.wrap .i64 (x_1.2.1+(1 :
  Int)),PUnit.unit) else none else none else obind (arbor_Weight v6.2.2.2.2.2.2.2.2.2.2.2.2 x_1.1) fun (t_1:Int×Int×PUnit)=>bif !decide (t_1.2.1 =
  (0:Int)) then some ([],t_1.2.1,PUnit.unit) else bif decide (IntKind.wrap .i64 (IntKind.wrap .i64 (t.1+v6.2.2.2.2.2.2.2.1)+t_1.1) >
  (67108864:Int)) then some ([],(5:Int),PUnit.unit) else bif fitB (List.length x.1+(1:Nat)) (16:Nat) then again (x.1++[(v6.2.1,IntKind.wrap .i64
  (IntKind.wrap .i64 (t.1+v6.2.2.2.2.2.2.2.1)+t_1.1))],IntKind.wrap .i64 (x.2.1+(1:Int)),PUnit.unit) else none) ([],(0:Int),PUnit.unit)
  else none else obind (grid_Loads x0.2.2.2 x.1) fun (t:List (Int×Int)×Int×PUnit)=>some (t.1,t.2.1,PUnit.unit)) ([],(0:Int),PUnit.unit)
noncomputable def house_Loads (x0:ByteArray×Int×(List (ByteArray×Int×Int×Int×Int×(List Int)×Int×Int×Int×Int×Int×(List (ByteArray×Int×Int×Int×Int×Int×Int))×List (ByteArray×Int×Int)))×List (ByteArray×Int×Int×Int)):Option ((List (Int×Int))×Int×Unit):=house_Loads_b lpK jnK batten_Weight house_Valid arbor_Weight grid_Loads x0
noncomputable def c12:Ctr:=⟨[T25],[],[],.tup [(.sl T50),i64],fun x _ _=>house_Loads x.1⟩
theorem e12 (lp:Lp) (jn:Jn) (batten_Weight:(ByteArray×Int×Int×Int×Int×(List Int)×Int×Int×Int×Int×Int×(List (ByteArray×Int×Int×Int×Int×Int×Int))×List (ByteArray×Int×Int))->Option (Int×Int×Unit)) (house_Valid:(ByteArray×Int×(List (ByteArray×Int×Int×Int×Int×(List Int)×Int×Int×Int×Int×Int×(List (ByteArray×Int×Int×Int×Int×Int×Int))×List (ByteArray×Int×Int)))×List (ByteArray×Int×Int×Int))->Option (Bool)) (arbor_Weight:(List (ByteArray×Int×Int))->(List Int)->Option (Int×Int×Unit)) (grid_Loads:(List (ByteArray×Int×Int×Int))->(List (Int×Int))->Option ((List (Int×Int))×Int×Unit)):∀(x:TsS c12.as) (F:TsF c12.fs) (y:TsS c12.cs),house_Loads_b lp jn batten_Weight house_Valid arbor_Weight grid_Loads x.1=runC lp jn (ctxOf prog shs inls its [(42,⟨[(.sl T68),(.sl T89)],[],[],.tup [(.sl T50),i64],fun x _ _=>grid_Loads x.1 x.2.1⟩),(41,⟨[(.sl T86),(.sl i64)],[],[],.tup [i64,i64],fun x _ _=>arbor_Weight x.1 x.2.1⟩),(37,⟨[T25],[],[],.one .bool,fun x _ _=>house_Valid x.1⟩),(10,⟨[T35],[],[],.tup [i64,i64],fun x _ _=>batten_Weight x.1⟩)] [(113,r113),(39,r39),(69,r69),(68,r68),(67,r67)]) hints 4 12 f12 c12 x F y:=fun x F y=>by kernel_rfl
theorem l12:(ctxOf prog shs inls its [(42,c42),(41,c41),(37,c37),(10,c10)] [(113,r113),(39,r39),(69,r69),(68,r68),(67,r67)]).ok:=ctxOf_cons (ctxOf_cons (ctxOf_cons (ctxOf_cons (q113) (by kernel_rfl) ok10) (by kernel_rfl) ok37) (by kernel_rfl) ok41) (by kernel_rfl) ok42
theorem ok12:c12.ok prog 12:=Ctr.of_den l12 hmix (hl:=hints) (d:=4) func12 rfl (by decide) (e12 lpK jnK batten_Weight house_Valid arbor_Weight grid_Loads)
noncomputable def slices_IndexFunc_77_b (lp:Lp) (_:Jn) (x0:List (Int×Int)) (f0:(((Int×Int)×Unit)->Option Bool)):Option Int :=
 lp (Int×PUnit) Int (fun (again:Int×PUnit->Option Int) (x:Int×PUnit)=>bif decide (x.1<(↑(List.length x0):Int)) then bif inB x.1 (List.length x0) then obind (f0
  (List.getD x0 (Int.toNat x.1) ((0:Int),(0:Int)),PUnit.unit)) fun (t:Bool)=>bif t then some x.1 else again (IntKind.wrap .i64 (x.1+(1:Int)),PUnit.unit) else
  none else some (-1:Int)) ((0:Int),PUnit.unit)
noncomputable def slices_IndexFunc_77 (x0:List (Int×Int)) (f0:(((Int×Int)×Unit)->Option Bool)):Option Int:=slices_IndexFunc_77_b lpK jnK x0 f0
noncomputable def c77:Ctr:=⟨[(.sl T50)],[([T50],.bool)],[],.one i64,fun x F _=>slices_IndexFunc_77 x.1 F.1⟩
theorem e77 (lp:Lp) (jn:Jn):∀(x:TsS c77.as) (F:TsF c77.fs) (y:TsS c77.cs),slices_IndexFunc_77_b lp jn x.1 F.1=runC lp jn (ctxOf prog shs inls its [] [(113,r113),(39,r39),(69,r69),(68,r68),(67,r67)]) hints 4 77 f77 c77 x F y:=fun x F y=>by kernel_rfl
theorem l77:(ctxOf prog shs inls its [] [(113,r113),(39,r39),(69,r69),(68,r68),(67,r67)]).ok:=q113
theorem ok77:c77.ok prog 77:=Ctr.of_den l77 hmix (hl:=hints) (d:=4) func77 rfl (by decide) (e77 lpK jnK)
noncomputable def slices_ContainsFunc_43_b (_:Lp) (_:Jn) (slices_IndexFunc_77:(List (Int×Int))->((((Int×Int)×Unit)->Option Bool))->Option (Int)) (x0:List (Int×Int)) (f0:(((Int×Int)×Unit)->Option Bool)):Option Bool :=
 obind (slices_IndexFunc_77 x0 f0) fun (t:Int)=>some (decide (t>=(0:Int)))
noncomputable def slices_ContainsFunc_43 (x0:List (Int×Int)) (f0:(((Int×Int)×Unit)->Option Bool)):Option Bool:=slices_ContainsFunc_43_b lpK jnK slices_IndexFunc_77 x0 f0
noncomputable def c43:Ctr:=⟨[(.sl T50)],[([T50],.bool)],[],.one .bool,fun x F _=>slices_ContainsFunc_43 x.1 F.1⟩
theorem e43 (lp:Lp) (jn:Jn) (slices_IndexFunc_77:(List (Int×Int))->((((Int×Int)×Unit)->Option Bool))->Option (Int)):∀(x:TsS c43.as) (F:TsF c43.fs) (y:TsS c43.cs),slices_ContainsFunc_43_b lp jn slices_IndexFunc_77 x.1 F.1=runC lp jn (ctxOf prog shs inls its [(77,⟨[(.sl T50)],[([T50],.bool)],[],.one i64,fun x F _=>slices_IndexFunc_77 x.1 F.1⟩)] [(113,r113),(39,r39),(69,r69),(68,r68),(67,r67)]) hints 4 43 f43 c43 x F y:=fun x F y=>by kernel_rfl
theorem l43:(ctxOf prog shs inls its [(77,c77)] [(113,r113),(39,r39),(69,r69),(68,r68),(67,r67)]).ok:=ctxOf_cons (q113) (by kernel_rfl) ok77
theorem ok43:c43.ok prog 43:=Ctr.of_den l43 hmix (hl:=hints) (d:=4) func43 rfl (by decide) (e43 lpK jnK slices_IndexFunc_77)
noncomputable def ratio_Sum_1_b (_:Lp) (_:Jn) (ratio_Valid:(Int×Int)->Option (Bool)) (x0:Int×Int):Option Bool :=
 obind (ratio_Valid x0) fun (t:Bool)=>some !t
noncomputable def ratio_Sum_1 (x0:Int×Int):Option Bool:=ratio_Sum_1_b lpK jnK ratio_Valid x0
noncomputable def c44:Ctr:=⟨[T50],[],[],.one .bool,fun x _ _=>ratio_Sum_1 x.1⟩
theorem e44 (lp:Lp) (jn:Jn) (ratio_Valid:(Int×Int)->Option (Bool)):∀(x:TsS c44.as) (F:TsF c44.fs) (y:TsS c44.cs),ratio_Sum_1_b lp jn ratio_Valid x.1=runC lp jn (ctxOf prog shs inls its [(45,⟨[T50],[],[],.one .bool,fun x _ _=>ratio_Valid x.1⟩)] [(113,r113),(39,r39),(69,r69),(68,r68),(67,r67)]) hints 4 44 f44 c44 x F y:=fun x F y=>by kernel_rfl
theorem l44:(ctxOf prog shs inls its [(45,c45)] [(113,r113),(39,r39),(69,r69),(68,r68),(67,r67)]).ok:=ctxOf_cons (q113) (by kernel_rfl) ok45
theorem ok44:c44.ok prog 44:=Ctr.of_den l44 hmix (hl:=hints) (d:=4) func44 rfl (by decide) (e44 lpK jnK ratio_Valid)
noncomputable def ratio_Sum_b (lp:Lp) (_:Jn) (ratio_Add:(Int×Int)->(Int×Int)->Option ((Int×Int)×Int×Unit)) (slices_ContainsFunc_43:(List (Int×Int))->((((Int×Int)×Unit)->Option Bool))->Option (Bool)) (ratio_Sum_1:(Int×Int)->Option (Bool)) (x0:List (Int×Int)):Option ((Int×Int)×Int×Unit) :=
 obind (slices_ContainsFunc_43 x0 fun (x:(Int×Int)×PUnit)=>ratio_Sum_1 x.1) fun (t:Bool)=>bif t then some (((0:Int),(0:Int)),(1:Int),PUnit.unit) else bif decide
  ((↑(List.length x0):Int)>(1000:Int)) then some (((0:Int),(0:Int)),(4:Int),PUnit.unit) else lp (Int×(Int×Int)×(Int×Int)×PUnit) ((Int×Int)×Int×PUnit) (fun
  (again:Int×(Int×Int)×(Int×Int)×PUnit->Option ((Int×Int)×Int×PUnit)) (x:Int×(Int×Int)×(Int×Int)×PUnit)=>bif decide (x.1<(↑(List.length x0):Int))
  then bif inB x.1 (List.length x0) then obind (ratio_Add x.2.2.1 (List.getD x0 (Int.toNat x.1) ((0:Int),(0:Int)))) fun (t:(Int×Int)×Int×PUnit)=>bif !decide
  (t.2.1=(0:Int)) then some (((0:Int),(0:Int)),t.2.1,PUnit.unit) else again (IntKind.wrap .i64 (x.1+(1:Int)),x.2.1,t.1,PUnit.unit) else none else
  some (x.2.2.1,(0:Int),PUnit.unit)) ((0:Int),((0:Int),(0:Int)),((0:Int),(1:Int)),PUnit.unit)
noncomputable def ratio_Sum (x0:List (Int×Int)):Option ((Int×Int)×Int×Unit):=ratio_Sum_b lpK jnK ratio_Add slices_ContainsFunc_43 ratio_Sum_1 x0
noncomputable def c13:Ctr:=⟨[(.sl T50)],[],[],.tup [T50,i64],fun x _ _=>ratio_Sum x.1⟩
theorem e13 (lp:Lp) (jn:Jn) (ratio_Add:(Int×Int)->(Int×Int)->Option ((Int×Int)×Int×Unit)) (slices_ContainsFunc_43:(List (Int×Int))->((((Int×Int)×Unit)->Option Bool))->Option (Bool)) (ratio_Sum_1:(Int×Int)->Option (Bool)):∀(x:TsS c13.as) (F:TsF c13.fs) (y:TsS c13.cs),ratio_Sum_b lp jn ratio_Add slices_ContainsFunc_43 ratio_Sum_1 x.1=runC lp jn (ctxOf prog shs inls its [(44,⟨[T50],[],[],.one .bool,fun x _ _=>ratio_Sum_1 x.1⟩),(43,⟨[(.sl T50)],[([T50],.bool)],[],.one .bool,fun x F _=>slices_ContainsFunc_43 x.1 F.1⟩),(46,⟨[T50,T50],[],[],.tup [T50,i64],fun x _ _=>ratio_Add x.1 x.2.1⟩)] [(113,r113),(39,r39),(69,r69),(68,r68),(67,r67)]) hints 4 13 f13 c13 x F y:=fun x F y=>by kernel_rfl
theorem l13:(ctxOf prog shs inls its [(44,c44),(43,c43),(46,c46)] [(113,r113),(39,r39),(69,r69),(68,r68),(67,r67)]).ok:=ctxOf_cons (ctxOf_cons (ctxOf_cons (q113) (by kernel_rfl) ok46) (by kernel_rfl) ok43) (by kernel_rfl) ok44
theorem ok13:c13.ok prog 13:=Ctr.of_den l13 hmix (hl:=hints) (d:=4) func13 rfl (by decide) (e13 lpK jnK ratio_Add slices_ContainsFunc_43 ratio_Sum_1)
noncomputable def ratio_Sub_b (_:Lp) (_:Jn) (ratio_Valid:(Int×Int)->Option (Bool)) (ratio_Add:(Int×Int)->(Int×Int)->Option ((Int×Int)×Int×Unit)) (x0:Int×Int) (x1:Int×Int):Option ((Int×Int)×Int×Unit) :=
 obind (ratio_Valid x0) fun (t:Bool) =>
 let v5:Bool:=!t;
 let v6:Bool:=!v5;
 let v7:Bool:=!v6||v6;bif v7 then obind (bif v6 then ratio_Valid x1 else some false) fun (t:Bool)=>bif v7 then bif v5||v6 then bif bif v5 then true else !t then some (((0 :
  Int),(0:Int)),(1:Int),PUnit.unit) else obind (ratio_Add x0 (IntKind.wrap .i64 ((0:Int) - x1.1),x1.2)) fun (t:(Int×Int)×Int×PUnit)=>some (t.1,t.2.1,
  PUnit.unit) else none else none else none
noncomputable def ratio_Sub (x0:Int×Int) (x1:Int×Int):Option ((Int×Int)×Int×Unit):=ratio_Sub_b lpK jnK ratio_Valid ratio_Add x0 x1
noncomputable def c14:Ctr:=⟨[T50,T50],[],[],.tup [T50,i64],fun x _ _=>ratio_Sub x.1 x.2.1⟩
theorem e14 (lp:Lp) (jn:Jn) (ratio_Valid:(Int×Int)->Option (Bool)) (ratio_Add:(Int×Int)->(Int×Int)->Option ((Int×Int)×Int×Unit)):∀(x:TsS c14.as) (F:TsF c14.fs) (y:TsS c14.cs),ratio_Sub_b lp jn ratio_Valid ratio_Add x.1 x.2.1=runC lp jn (ctxOf prog shs inls its [(46,⟨[T50,T50],[],[],.tup [T50,i64],fun x _ _=>ratio_Add x.1 x.2.1⟩),(45,⟨[T50],[],[],.one .bool,fun x _ _=>ratio_Valid x.1⟩)] [(113,r113),(39,r39),(69,r69),(68,r68),(67,r67)]) hints 4 14 f14 c14 x F y:=fun x F y=>by kernel_rfl
theorem l14:(ctxOf prog shs inls its [(46,c46),(45,c45)] [(113,r113),(39,r39),(69,r69),(68,r68),(67,r67)]).ok:=ctxOf_cons (ctxOf_cons (q113) (by kernel_rfl) ok45) (by kernel_rfl) ok46
theorem ok14:c14.ok prog 14:=Ctr.of_den l14 hmix (hl:=hints) (d:=4) func14 rfl (by decide) (e14 lpK jnK ratio_Valid ratio_Add)
noncomputable def top_TopHung_b (_:Lp) (_:Jn) (batten_Weight:(ByteArray×Int×Int×Int×Int×(List Int)×Int×Int×Int×Int×Int×(List (ByteArray×Int×Int×Int×Int×Int×Int))×List (ByteArray×Int×Int))->Option (Int×Int×Unit)) (arbor_Balance:(ByteArray×Int×Int×Int×Int×(List Int)×Int×Int×Int×Int×Int×(List (ByteArray×Int×Int×Int×Int×Int×Int))×List (ByteArray×Int×Int))->Option (Int×Int×Unit)) (brake_Change:(ByteArray×Int×Int×Int×Int×(List Int)×Int×Int×Int×Int×Int×(List (ByteArray×Int×Int×Int×Int×Int×Int))×List (ByteArray×Int×Int))->(ByteArray×Bool×Int)->Option (Int×Int×Unit)) (top_writtenAwake:Option (Bool)) (ref30_Small:(ByteArray×Int×(List (ByteArray×Int×Int×Int×Int×(List Int)×Int×Int×Int×Int×Int×(List (ByteArray×Int×Int×Int×Int×Int×Int))×List (ByteArray×Int×Int)))×List (ByteArray×Int×Int×Int))->(Int)->Option (Bool)) (ref30_Valid:(ByteArray×Int×(List (ByteArray×Int×Int×Int×Int×(List Int)×Int×Int×Int×Int×Int×(List (ByteArray×Int×Int×Int×Int×Int×Int))×List (ByteArray×Int×Int)))×List (ByteArray×Int×Int×Int))->Option (Bool)) (batten_Put:(ByteArray×Int×Int×Int×Int×(List Int)×Int×Int×Int×Int×Int×(List (ByteArray×Int×Int×Int×Int×Int×Int))×List (ByteArray×Int×Int))->(ByteArray×Int×Int×Int×Int×Int×Int)->Option ((ByteArray×Int×Int×Int×Int×(List Int)×Int×Int×Int×Int×Int×(List (ByteArray×Int×Int×Int×Int×Int×Int))×List (ByteArray×Int×Int))×Int×Unit)) (house_Put:(ByteArray×Int×(List (ByteArray×Int×Int×Int×Int×(List Int)×Int×Int×Int×Int×Int×(List (ByteArray×Int×Int×Int×Int×Int×Int))×List (ByteArray×Int×Int)))×List (ByteArray×Int×Int×Int))->(ByteArray×Int×Int×Int×Int×(List Int)×Int×Int×Int×Int×Int×(List (ByteArray×Int×Int×Int×Int×Int×Int))×List (ByteArray×Int×Int))->Option ((ByteArray×Int×(List (ByteArray×Int×Int×Int×Int×(List Int)×Int×Int×Int×Int×Int×(List (ByteArray×Int×Int×Int×Int×Int×Int))×List (ByteArray×Int×Int)))×List (ByteArray×Int×Int×Int))×Int×Unit)) (house_Loads:(ByteArray×Int×(List (ByteArray×Int×Int×Int×Int×(List Int)×Int×Int×Int×Int×Int×(List (ByteArray×Int×Int×Int×Int×Int×Int))×List (ByteArray×Int×Int)))×List (ByteArray×Int×Int×Int))->Option ((List (Int×Int))×Int×Unit)) (ratio_Sum:(List (Int×Int))->Option ((Int×Int)×Int×Unit)) (ratio_Sub:(Int×Int)->(Int×Int)->Option ((Int×Int)×Int×Unit)) (x0:ByteArray×Int×(List (ByteArray×Int×Int×Int×Int×(List Int)×Int×Int×Int×Int×Int×(List (ByteArray×Int×Int×Int×Int×Int×Int))×List (ByteArray×Int×Int)))×List (ByteArray×Int×Int×Int)) (x1:Int) (x2:ByteArray×Int×Int×Int×Int×Int×Int):Option Bool :=
 
 let v5:Bool:=decide ((↑(ByteArray.size x2.1):Int)>(60:Int));
 let v6:Int:=Int.tmod (IntKind.wrap .i64 x1) (↑(List.length x0.2.2.1):Int);
 let v7:ByteArray×Int×Int×Int×Int×List Int×Int×Int×Int×Int×Int×List (ByteArray×Int×Int×Int×Int×Int×Int)×List (ByteArray×Int×Int):=List.getD
  x0.2.2.1 (Int.toNat v6) ({ data:={ toList:=[] } },(0:Int),(0:Int),(0:Int),(0:Int),[],(0:Int),(0:Int),(0:Int),(0:Int),(0:Int),[],[]);obind
  top_writtenAwake fun (t:Bool)=>bif !t then some false else obind (ref30_Small x0 (6:Int)) fun (t:Bool) =>
 let v10:Bool:=!t;
 let v11:Bool:=!v10;
 let v12:Bool:=bif v10 then true else v5;
 let v13:Bool:=!v12;
 let v14:Bool:=!v11||v11;
 let v15:Bool:=!v13||v13;bif v14 then bif v14 then bif v14 then bif v10||v11 then bif v15 then obind (bif v13 then ref30_Valid x0 else some false) fun (t:Bool) =>
 let v17:Bool:=bif v12 then true else !t;
 let v18:Bool:=!v17;
 let v19:Bool:=!v18||v18;bif v15 then bif v12||v13 then bif v19 then bif v19 then bif v19 then bif v17||v18 then bif bif v17 then true else decide ((↑(List.length
  x0.2.2.1):Int)=(0:Int)) then some true else bif nzB (↑(List.length x0.2.2.1):Int) then bif inB v6 (List.length x0.2.2.1) then obind (batten_Put v7 x2) fun (t :
  (ByteArray×Int×Int×Int×Int×List Int×Int×Int×Int×Int×Int×List (ByteArray×Int×Int×Int×Int×Int×Int)×List (ByteArray×Int×Int))×Int×PUnit)=>bif
  !decide (t.2.1=(0:Int)) then some true else obind (arbor_Balance v7) fun (t_1:Int×Int×PUnit) =>
 let v22:Bool:=!decide (t_1.2.1=(0:Int));
 let v23:Bool:=!v22;obind (arbor_Balance t.1) fun (t_2:Int×Int×PUnit) =>
 let v25:Bool:=bif v22 then true else !decide (t_2.2.1=(0:Int));
 let v26:Bool:=!v25;obind (brake_Change v7 ({ data:=#[(104:UInt8),(97:UInt8),(110:UInt8),(103:UInt8)] },true,x2.2.2.2.1)) fun (t_3:Int×Int×PUnit) =>
 let v28:Bool:=bif v25 then true else !decide (t_3.2.1=(0:Int));
 let v29:Bool:=!v28;obind (batten_Weight v7) fun (t_4:Int×Int×PUnit) =>
 let v31:Bool:=bif v28 then true else !decide (t_4.2.1=(0:Int));
 let v32:Bool:=!v31;
 let v33:Int:=IntKind.wrap .i64 (t_4.1+x2.2.2.2.1);obind (batten_Weight t.1) fun (t_5:Int×Int×PUnit) =>
 let v35:Bool:=bif v31 then true else !decide (t_5.2.1=(0:Int));
 let v36:Bool:=!v35;
 let v37:Bool:=!v36||v36;
 let v38:Bool:=bif v35 then true else !decide (t_2.1=IntKind.wrap .i64 (t_1.1+t_3.1));
 let v39:Bool:=!v38;
 let v40:Bool:=v37&&v37;
 let v41:Bool:=!v39||v39;
 let v42:Bool:=v41&&v41;bif !v23||v23 then bif v22||v23 then bif !v26||v26 then bif v25||v26 then bif !v29||v29 then bif v28||v29 then bif !v32||v32 then bif v31 ||
  v32 then bif v40 then bif v40 then bif v35||v36 then bif v41 then bif v42 then bif v42 then bif v38||v39 then bif bif v38 then true else !decide (t_5.1=v33) then some false else
  obind (house_Put x0 t.1) fun (t:(ByteArray×Int×List (ByteArray×Int×Int×Int×Int×List Int×Int×Int×Int×Int×Int×List (ByteArray×Int×Int×Int×Int×Int ×
  Int)×List (ByteArray×Int×Int))×List (ByteArray×Int×Int×Int))×Int×PUnit)=>bif !decide (t.2.1=(0:Int)) then some false else obind (house_Loads x0) fun (t_6 :
  List (Int×Int)×Int×PUnit) =>
 let v45:Bool:=!decide (t_6.2.1=(0:Int));
 let v46:Bool:=!v45;
 let v47:Bool:=v45||v46;
 let v48:Bool:=!v46||v46;obind (house_Loads t.1) fun (t:List (Int×Int)×Int×PUnit) =>
 let v50:Bool:=bif v45 then true else !decide (t.2.1=(0:Int));
 let v51:Bool:=!v50;
 let v52:Bool:=!v51||v51;bif v48 then bif v47 then bif v52 then bif v52 then bif v52&&v52 then bif v50||v51 then bif bif v50 then true else !decide ((↑(List.length t_6.1) :
  Int)=(↑(List.length t.1):Int)) then bif v48 then bif v47 then some (bif v45 then true else decide (t.2.1=(5:Int))) else none else none else obind (ratio_Sum t.1) fun (t
  : (Int×Int)×Int×PUnit) =>
 let v54:Bool:=decide (t.2.1=(5:Int));
 let v55:Bool:=!decide (t.2.1=(0:Int));
 let v56:Bool:=!v54;
 let v57:Bool:=!v55;obind (ratio_Sum t_6.1) fun (t_7:(Int×Int)×Int×PUnit)=>bif !v57||v57 then bif v55||v57 then bif bif v55 then true else !decide (t_7.2.1=(0 :
  Int)) then bif !v56||v56 then bif v54||v56 then some (bif v54 then true else decide (t_7.2.1=(5:Int))) else none else none else obind (ratio_Sub t.1 t_7.1) fun (t:(Int
  × Int)×Int×PUnit) =>
 let v60:Bool:=decide (t.2.1=(5:Int));
 let v61:Bool:=decide (t.2.1=(0:Int));
 let v62:Bool:=!v60;
 let v63:Bool:=!v62;
 let v64:Bool:=v62&&v61;
 let v65:Bool:=v63||v62;
 let v66:Bool:=!v64||v64;bif v65 then bif v65 then bif v66 then bif v66 then bif v66&&v66 then bif (v63||v65)&&(v63||(!v61||(v63||v64))) then bif v60||v62 then some
  (bif v60 then true else bif v61 then decide (t.1.1=x2.2.2.2.1)&&(decide (t.1.2=(1:Int))&&true) else false) else none else none else none else none else none
  else none else none else none else none else none else none else none else none else none else none else none else none else none else none else none else none else none else none else
  none else none else none else none else none else none else none else none else none else none else none else none else none else none else none else none else none else none else none
  else none
noncomputable def top_TopHung (x0:ByteArray×Int×(List (ByteArray×Int×Int×Int×Int×(List Int)×Int×Int×Int×Int×Int×(List (ByteArray×Int×Int×Int×Int×Int×Int))×List (ByteArray×Int×Int)))×List (ByteArray×Int×Int×Int)) (x1:Int) (x2:ByteArray×Int×Int×Int×Int×Int×Int):Option Bool:=top_TopHung_b lpK jnK batten_Weight arbor_Balance brake_Change top_writtenAwake ref30_Small ref30_Valid batten_Put house_Put house_Loads ratio_Sum ratio_Sub x0 x1 x2
noncomputable def c3:Ctr:=⟨[T25,(.int .u8),T27],[],[],.one .bool,fun x _ _=>top_TopHung x.1 x.2.1 x.2.2.1⟩
theorem e3 (lp:Lp) (jn:Jn) (batten_Weight:(ByteArray×Int×Int×Int×Int×(List Int)×Int×Int×Int×Int×Int×(List (ByteArray×Int×Int×Int×Int×Int×Int))×List (ByteArray×Int×Int))->Option (Int×Int×Unit)) (arbor_Balance:(ByteArray×Int×Int×Int×Int×(List Int)×Int×Int×Int×Int×Int×(List (ByteArray×Int×Int×Int×Int×Int×Int))×List (ByteArray×Int×Int))->Option (Int×Int×Unit)) (brake_Change:(ByteArray×Int×Int×Int×Int×(List Int)×Int×Int×Int×Int×Int×(List (ByteArray×Int×Int×Int×Int×Int×Int))×List (ByteArray×Int×Int))->(ByteArray×Bool×Int)->Option (Int×Int×Unit)) (top_writtenAwake:Option (Bool)) (ref30_Small:(ByteArray×Int×(List (ByteArray×Int×Int×Int×Int×(List Int)×Int×Int×Int×Int×Int×(List (ByteArray×Int×Int×Int×Int×Int×Int))×List (ByteArray×Int×Int)))×List (ByteArray×Int×Int×Int))->(Int)->Option (Bool)) (ref30_Valid:(ByteArray×Int×(List (ByteArray×Int×Int×Int×Int×(List Int)×Int×Int×Int×Int×Int×(List (ByteArray×Int×Int×Int×Int×Int×Int))×List (ByteArray×Int×Int)))×List (ByteArray×Int×Int×Int))->Option (Bool)) (batten_Put:(ByteArray×Int×Int×Int×Int×(List Int)×Int×Int×Int×Int×Int×(List (ByteArray×Int×Int×Int×Int×Int×Int))×List (ByteArray×Int×Int))->(ByteArray×Int×Int×Int×Int×Int×Int)->Option ((ByteArray×Int×Int×Int×Int×(List Int)×Int×Int×Int×Int×Int×(List (ByteArray×Int×Int×Int×Int×Int×Int))×List (ByteArray×Int×Int))×Int×Unit)) (house_Put:(ByteArray×Int×(List (ByteArray×Int×Int×Int×Int×(List Int)×Int×Int×Int×Int×Int×(List (ByteArray×Int×Int×Int×Int×Int×Int))×List (ByteArray×Int×Int)))×List (ByteArray×Int×Int×Int))->(ByteArray×Int×Int×Int×Int×(List Int)×Int×Int×Int×Int×Int×(List (ByteArray×Int×Int×Int×Int×Int×Int))×List (ByteArray×Int×Int))->Option ((ByteArray×Int×(List (ByteArray×Int×Int×Int×Int×(List Int)×Int×Int×Int×Int×Int×(List (ByteArray×Int×Int×Int×Int×Int×Int))×List (ByteArray×Int×Int)))×List (ByteArray×Int×Int×Int))×Int×Unit)) (house_Loads:(ByteArray×Int×(List (ByteArray×Int×Int×Int×Int×(List Int)×Int×Int×Int×Int×Int×(List (ByteArray×Int×Int×Int×Int×Int×Int))×List (ByteArray×Int×Int)))×List (ByteArray×Int×Int×Int))->Option ((List (Int×Int))×Int×Unit)) (ratio_Sum:(List (Int×Int))->Option ((Int×Int)×Int×Unit)) (ratio_Sub:(Int×Int)->(Int×Int)->Option ((Int×Int)×Int×Unit)):∀(x:TsS c3.as) (F:TsF c3.fs) (y:TsS c3.cs),top_TopHung_b lp jn batten_Weight arbor_Balance brake_Change top_writtenAwake ref30_Small ref30_Valid batten_Put house_Put house_Loads ratio_Sum ratio_Sub x.1 x.2.1 x.2.2.1=runC lp jn (ctxOf prog shs inls its [(14,⟨[T50,T50],[],[],.tup [T50,i64],fun x _ _=>ratio_Sub x.1 x.2.1⟩),(13,⟨[(.sl T50)],[],[],.tup [T50,i64],fun x _ _=>ratio_Sum x.1⟩),(12,⟨[T25],[],[],.tup [(.sl T50),i64],fun x _ _=>house_Loads x.1⟩),(11,⟨[T25,T35],[],[],.tup [T25,i64],fun x _ _=>house_Put x.1 x.2.1⟩),(7,⟨[T35,T27],[],[],.tup [T35,i64],fun x _ _=>batten_Put x.1 x.2.1⟩),(6,⟨[T25],[],[],.one .bool,fun x _ _=>ref30_Valid x.1⟩),(5,⟨[T25,i64],[],[],.one .bool,fun x _ _=>ref30_Small x.1 x.2.1⟩),(4,⟨[],[],[],.one .bool,fun _ _ _=>top_writtenAwake⟩),(9,⟨[T35,T43],[],[],.tup [i64,i64],fun x _ _=>brake_Change x.1 x.2.1⟩),(8,⟨[T35],[],[],.tup [i64,i64],fun x _ _=>arbor_Balance x.1⟩),(10,⟨[T35],[],[],.tup [i64,i64],fun x _ _=>batten_Weight x.1⟩)] [(113,r113),(39,r39),(69,r69),(68,r68),(67,r67)]) hints 4 3 f3 c3 x F y:=fun x F y=>by kernel_rfl
theorem l3:(ctxOf prog shs inls its [(14,c14),(13,c13),(12,c12),(11,c11),(7,c7),(6,c6),(5,c5),(4,c4),(9,c9),(8,c8),(10,c10)] [(113,r113),(39,r39),(69,r69),(68,r68),(67,r67)]).ok:=ctxOf_cons (ctxOf_cons (ctxOf_cons (ctxOf_cons (ctxOf_cons (ctxOf_cons (ctxOf_cons (ctxOf_cons (ctxOf_cons (ctxOf_cons (ctxOf_cons (q113) (by kernel_rfl) ok10) (by kernel_rfl) ok8) (by kernel_rfl) ok9) (by kernel_rfl) ok4) (by kernel_rfl) ok5) (by kernel_rfl) ok6) (by kernel_rfl) ok7) (by kernel_rfl) ok11) (by kernel_rfl) ok12) (by kernel_rfl) ok13) (by kernel_rfl) ok14
theorem ok3:c3.ok prog 3:=Ctr.of_den l3 hmix (hl:=hints) (d:=4) func3 rfl (by decide) (e3 lpK jnK batten_Weight arbor_Balance brake_Change top_writtenAwake ref30_Small ref30_Valid batten_Put house_Put house_Loads ratio_Sum ratio_Sub)
end Go.Proofs.YtlfdhaiigdllcaaGreatDoor

namespace Go.Proofs.YtlfdhaiigdllcaaGreatDoor
namespace Dn
section
variable {T R α σ:Type}
theorem obind_some' {t:T} {k:T->Option R}:obind (some t) k=k t:=rfl
theorem loopF_eq {F:(α->Option R)->α->Option R} {g:α->Option R} (I:α->Prop) (μ:α->Nat)
  (h:∀x rec,I x->(∀y,I y->μ y<μ x->rec y=g y)->F rec x=g x):∀{n:Nat} {x:α},I x->μ x<n->loopF F n x=g x
 | 0,x,_,hn=>by omega
 | n+1,x,hx,hn=>by
  rw[loopF_succ]
  exact h x _ hx fun y hy hlt=>loopF_eq I μ h hy (by omega)
theorem lpK_loop {F:(α->Option R)->α->Option R} {g:α->Option R} (I:α->Prop) (μ:α->Nat)
  (h:∀x rec,I x->(∀y,I y->μ y<μ x->rec y=g y)->F rec x=g x) {x:α} (hx:I x) (hn:μ x<1180591620717411303424):lpK α R F x=g x:=loopF_eq I μ h hx hn
theorem wrap_id {x:Int} (h1: -9223372036854775808<=x) (h2:x<9223372036854775808):IntKind.wrap .i64 x=x:=by
 rw[IntKind.wrap_i64];omega
def upF (b:Nat->σ->(σ->Option R)->Option R) (f:σ->Option R):Nat->Nat->σ->Option R
 | 0,_,s=>f s
 | k+1,i,s=>b i s (upF b f k (i+1))
theorem loopF_up {F:(α->Option R)->α->Option R} (n:Nat) (hn:n<=1180591620717411303423) (enc:Nat->σ->α) (b:Nat->σ->(σ->Option R)->Option R) (f:σ->Option R)
  (hb:∀again (i:Nat) s,i<n->F again (enc i s)=b i s (fun s'=>again (enc (i+1) s'))) (hf:∀again s,F again (enc n s)=f s) (s:σ) :
  loopF F K0 (enc 0 s)=upF b f n 0 s:=by
 have key:∀(k:Nat) (i:Nat) (m:Nat) (s:σ),i+k=n->k<m->loopF F m (enc i s)=upF b f k i s:=by
  intro k
  induction k with
  | zero =>
   intro i m s h1 h2
   obtain ⟨m,rfl⟩:∃m',m=m'+1:=⟨m - 1,by omega⟩
   have:i=n:=by omega
   subst this
   simp only[loopF_succ,hf,upF]
  | succ k ih =>
   intro i m s h1 h2
   obtain ⟨m,rfl⟩:∃m',m=m'+1:=⟨m - 1,by omega⟩
   simp only[loopF_succ,upF]
   rw[hb _ _ _ (by omega)]
   congr 1
   funext s'
   exact ih (i+1) m s' (by omega) (by omega)
 exact key n 0 K0 s (by omega) (by unfold K0;omega)
theorem inB_nat {i n:Nat}:inB (i:Int) n=decide (i<n):=by
 rw[Bool.eq_iff_iff,inB_iff,decide_eq_true_iff];omega
theorem inB_of {i:Int} {n:Nat} (h1:0<=i) (h2:i<n):inB i n=true:=inB_iff.2 ⟨h1,h2⟩
theorem nzB_of {n:Int} (h:n≠0):nzB n=true:=nzB_iff.2 h
theorem slB_of {lo hi:Int} {n:Nat} (h1:0<=lo) (h2:lo<=hi) (h3:hi<=n):slB lo hi n=true:=slB_iff.2 ⟨h1,h2,h3⟩
theorem fitB_of {n k:Nat} (h:n*k<=140737488355328):fitB n k=true:=fitB_iff.2 h
theorem ble_of {n m:Nat} (h:n<=m):Nat.ble n m=true:=by rw[Nat.ble_eq];exact h
theorem cT0 {α:Sort _} {c:Bool} (h:c=true) (a b:α):cond c a b=a:=by subst h;rfl
theorem cT {α:Sort _} (a b:α):cond true a b=a:=cT0 (Eq.trans rfl rfl) a b
theorem cF0 {α:Sort _} {c:Bool} (h:c=false) (a b:α):cond c a b=b:=by subst h;rfl
theorem cF {α:Sort _} (a b:α):cond false a b=b:=cF0 (Eq.trans rfl rfl) a b
theorem or_self_not {b:Bool}:(b||!b)=true:=by cases b<;>rfl
theorem not_or_self' {b:Bool}:(!b||b)=true:=by cases b<;>rfl
theorem bif_false' {b:Bool} {c:Bool}:(bif b then c else false)=(b&&c):=by cases b<;>rfl
theorem bif_true' {b:Bool} {c:Bool}:(bif b then true else c)=(b||c):=by cases b<;>rfl
theorem getD_nat {l:List α} {d:α} {i:Nat} (h:i<l.length):l.getD i d=l[i]:=by simp[List.getD,h]
end
end Dn
end Go.Proofs.YtlfdhaiigdllcaaGreatDoor

namespace Go.Proofs.YtlfdhaiigdllcaaGreatDoor
open Tryz Dn Dn.Sh
theorem str_beq (a b:ByteArray):List.beq (ByteArray.toList a) (ByteArray.toList b)=decide (a=b):=by
 show (a.toList ==b.toList)=_
 rw[ByteArray.toList_eq,ByteArray.toList_eq,Bool.eq_iff_iff,decide_eq_true_iff,beq_iff_eq]
 exact ⟨fun h=>ByteArray.ext (Array.toList_inj.mp h),fun h=>by rw[h]⟩
theorem lpK_some {α R:Type} {F:(α->Option R)->α->Option R} (I:α->Prop) (μ:α->Nat) (h:∀x rec,I x->(∀y,I y->μ y<μ x->(rec y).isSome=true)->(F rec x).isSome=true) {x:α} (hx:I x) (hn:μ x<1180591620717411303424):(lpK α R F x).isSome=true:=by
 have key:∀n x,I x->μ x<n->(loopF F n x).isSome=true:=by
  intro n
  induction n with
  | zero=>intro x _ h;omega
  | succ n ih =>
   intro x hx hn
   rw[loopF_succ]
   exact h x _ hx fun y hy hlt=>ih y hy (by omega)
 exact key _ x hx hn
theorem letter_same:decimal_letter=ref01_Letter:=by
 funext c
 rfl
theorem digit_same:decimal_digit=ref01_Digit:=by
 funext c
 rfl
theorem letter_some (c:Int):∃b,decimal_letter c=some b:=by
 simp only[decimal_letter,decimal_letter_b,not_or_self',or_self_not,cond_true]
 cases decide (c>=97)<;>cases decide (c<=122)<;>cases decide (c>=65)<;>exact ⟨_,rfl⟩
theorem digit_some (c:Int):∃b,decimal_digit c=some b:=by
 simp only[decimal_digit,decimal_digit_b,not_or_self',cond_true]
 exact ⟨_,rfl⟩
theorem word_some {s:ByteArray} (h:s.size<=1000000):∃n,decimal_word s=some n:=by
 rw[<-Option.isSome_iff_exists]
 simp only[decimal_word,decimal_word_b]
 refine lpK_some (I:=fun (x:Int×PUnit)=>0<=x.1/\x.1<=s.size) (μ:=fun (x:Int×PUnit)=>((s.size:Int) - x.1).toNat) (x:=((0:Int),PUnit.unit)) ?_ ⟨Int.le_refl _,by simp only;omega⟩ (by simp only;omega)
 rintro ⟨i,_⟩ rec ⟨h0,h1⟩ hrec
 simp only at h0 h1 ⊢
 by_cases hi:i<s.size
 ·rw[inB_of h0 hi,decide_eq_true hi]
  obtain ⟨b,hb⟩:=letter_some (byteAt s i.toNat)
  obtain ⟨c,hc⟩:=digit_some (byteAt s i.toNat)
  have hw:IntKind.wrap .i64 (i+1)=i+1:=wrap_id (by omega) (by omega)
  have hr:=hrec (i+1,PUnit.unit) ⟨by simp only;omega,by simp only;omega⟩ (by simp only;omega)
  simp only[hb,hc,hw]
  cases b<;>cases c<;>cases decide (byteAt s i.toNat=95)<;>simp[obind_some',hr]
 ·rw[decide_eq_false hi]
  simp[obind_some']
theorem word_same (s:ByteArray):ref01_word s 0=decimal_word s:=by
 simp only[ref01_word,ref01_word_b,decimal_word,decimal_word_b,letter_same,digit_same]
noncomputable def nameB (s:ByteArray):Bool:=decide (0<s.size)&&(decide (s.size<=20)&&((decimal_letter (byteAt s 0)).getD false&&decide ((decimal_word s).getD 0=(s.size:Int))))
theorem empty_iff (s:ByteArray):s={ data:=#[] }↔s.size=0:=by
 constructor
 ·intro h;rw[h];rfl
 ·intro h
  apply ByteArray.ext
  exact Array.eq_empty_of_size_eq_zero h
theorem isName_ok (s:ByteArray):decimal_IsName s=some (nameB s):=by
 simp only[decimal_IsName,decimal_IsName_b,str_beq,not_or_self',Bool.and_self,cond_true]
 unfold nameB
 by_cases h0:s.size=0
 ·have e:decide (s={ data:=#[] })=true:=decide_eq_true ((empty_iff s).2 h0)
  simp[e,h0,obind_some']
 ·have e:decide (s={ data:=#[] })=false:=decide_eq_false fun h=>h0 ((empty_iff s).1 h)
  by_cases h1:s.size<=20
  ·obtain ⟨b,hb⟩:=letter_some (byteAt s 0)
   obtain ⟨n,hn⟩:=word_some (s:=s) (by omega)
   have h2:decide ((s.size:Int)<=20)=true:=decide_eq_true (by omega)
   rw[inB_of (show (0:Int)<=0 by omega) (show (0:Int)<s.size by omega)]
   simp only[e,h2,hb,hn]
   cases b<;>simp[obind_some',h1,show 0<s.size by omega]
  ·have h2:decide ((s.size:Int)<=20)=false:=decide_eq_false (by omega)
   simp[e,h2,h1,obind_some']
theorem refIsName_ok (s:ByteArray):ref01_IsName s=some (nameB s):=by
 simp only[ref01_IsName,ref01_IsName_b,not_or_self',or_self_not,cond_true]
 unfold nameB
 by_cases h0:s.size=0
 ·simp[h0,obind_some']
 ·have e:decide ((s.size:Int)=0)=false:=decide_eq_false (by omega)
  by_cases h1:s.size<=20
  ·obtain ⟨b,hb⟩:=letter_some (byteAt s 0)
   obtain ⟨n,hn⟩:=word_some (s:=s) (by omega)
   have h2:decide ((s.size:Int)>20)=false:=decide_eq_false (by omega)
   rw[inB_of (show (0:Int)<=0 by omega) (show (0:Int)<s.size by omega),word_same]
   simp only[e,h2,<-letter_same,hb,hn]
   cases b<;>simp[obind_some',h1,show 0<s.size by omega]
  ·have h2:decide ((s.size:Int)>20)=true:=decide_eq_true (by omega)
   simp[h2,h1,obind_some']
end Go.Proofs.YtlfdhaiigdllcaaGreatDoor

namespace Go.Proofs.YtlfdhaiigdllcaaGreatDoor
namespace Dn
theorem lpK_up {σ α R:Type} {F:(α->Option R)->α->Option R} (n:Nat) (hn:n<=1180591620717411303423) (enc:Nat->σ->α) (b:Nat->σ->(σ->Option R)->Option R) (f:σ->Option R)
  (hb:∀again (i:Nat) s,i<n->F again (enc i s)=b i s (fun s'=>again (enc (i+1) s'))) (hf:∀again s,F again (enc n s)=f s) (s:σ) :
  lpK α R F (enc 0 s)=upF b f n 0 s:=loopF_up n hn enc b f hb hf s
def idxI {α:Type} (p:α->Bool):List α->Int->Int
 | [],_=> -1
 | a ::l,i=>bif p a then i else idxI p l (i+1)
theorem idxI_neg {α:Type} {p:α->Bool}:∀{l:List α} {i:Int},0<=i->(idxI p l i<0↔∀a ∈ l,p a=false)
 | [],i,h=>by simp[idxI]
 | a ::l,i,h=>by
  unfold idxI
  cases hp:p a with
  | true=>simp only[cond_true,List.mem_cons,forall_eq_or_imp,hp];simp;omega
  | false=>simp only[cond_false,List.mem_cons,forall_eq_or_imp,hp,true_and];exact idxI_neg (by omega)
theorem idxI_drop {α:Type} {p:α->Bool} {l:List α} {d:α} {i:Nat} (h:i<l.length):idxI p (l.drop i) i=bif p (l.getD i d) then (i:Int) else idxI p (l.drop (i+1)) ((i:Int)+1):=by
 rw[List.drop_eq_getElem_cons h,getD_nat h]
 rfl
theorem idxI_at {α:Type} {p:α->Bool} {d:α}:∀{l:List α} {i:Int},0<=i->0<=idxI p l i->i<=idxI p l i/\idxI p l i<i+l.length/\p (l.getD (idxI p l i - i).toNat d)=true
 | [],i,_,h=>by simp[idxI] at h
 | a ::l,i,hi,h=>by
  unfold idxI at h ⊢
  cases hp:p a with
  | true=>simp[hp];omega
  | false =>
   rw[hp,cond_false] at h
   obtain ⟨h1,h2,h3⟩:=idxI_at (d:=d) (show 0<=i+1 by omega) h
   rw[cond_false]
   refine ⟨by omega,by simp only[List.length_cons];omega,?_⟩
   have e:(idxI p l (i+1) - i).toNat=(idxI p l (i+1) - (i+1)).toNat+1:=by omega
   rw[e,List.getD_cons_succ]
   exact h3
theorem index_loop {α:Type} {f:(α×Unit)->Option Bool} {d:α} {p:α->Bool} {l:List α} (hl:l.length<=1000000) (h:∀a,a ∈ l->f (a,())=some (p a)) :
  lpK (Int×PUnit) Int (fun (again:Int×PUnit->Option Int) (x:Int×PUnit)=>bif decide (x.1<(↑(List.length l):Int)) then bif inB x.1 (List.length l) then obind (f
   (List.getD l (Int.toNat x.1) d,PUnit.unit)) fun (t:Bool)=>bif t then some x.1 else again
   (IntKind.wrap .i64 (x.1+(1:Int)),PUnit.unit) else none else some (-1:Int)) ((0:Int),PUnit.unit)=some (idxI p l 0):=by
 refine lpK_loop (g:=fun _=>some (idxI p l 0)) (I:=fun (x:Int×PUnit)=>0<=x.1/\x.1<=l.length/\idxI p (l.drop x.1.toNat) x.1=idxI p l 0) (μ:=fun (x:Int×PUnit)=>((l.length:Int) - x.1).toNat) ?_ ⟨by simp,by simp only;omega,rfl⟩ (by simp only;omega)
 rintro ⟨i,_⟩ rec ⟨h0,h1,h2⟩ hrec
 simp only at h0 h1 h2 ⊢
 by_cases hi:i<l.length
 ·obtain ⟨n,rfl⟩:∃n:Nat,i=n:=⟨i.toNat,by omega⟩
  rw[decide_eq_true hi,cond_true,inB_of h0 hi,cond_true,Int.toNat_natCast,h _ (by rw[getD_nat (by omega)];exact List.getElem_mem (by omega)),obind_some',wrap_id (by omega) (by omega)]
  rw[Int.toNat_natCast,idxI_drop (d:=d) (by omega)] at h2
  cases hp:p (l.getD n d) with
  | true=>rw[hp,cond_true] at h2;rw[cond_true,h2]
  | false=>rw[hp,cond_false] at h2;rw[cond_false];exact hrec _ ⟨by simp only;omega,by simp only;omega,h2⟩ (by simp only;omega)
 ·rw[decide_eq_false hi,cond_false]
  have e:i.toNat=l.length:=by omega
  rw[e,List.drop_length] at h2
  rw[<-h2]
  rfl
theorem find_loop {α:Type} {p:α->Bool} {d:α} {l:List α} (hl:l.length<=1000000) :
  lpK (Int×PUnit) Int (fun (again:Int×PUnit->Option Int) (x:Int×PUnit)=>bif decide (x.1<(↑(List.length l):Int)) then bif inB x.1 (List.length l) then bif p
   (List.getD l (Int.toNat x.1) d) then some x.1 else again
   (IntKind.wrap .i64 (x.1+(1:Int)),PUnit.unit) else none else some (-1:Int)) ((0:Int),PUnit.unit)=some (idxI p l 0) :=
 index_loop (f:=fun a=>some (p a.1)) hl fun _ _=>rfl
theorem upF_all {R σ:Type} {b:Nat->σ->(σ->Option R)->Option R} {f:σ->Option R} {p:Nat->Bool} {r:Option R} {s:σ} (n:Nat) (hb:∀i (k:σ->Option R),i<n->b i s k=bif p i then k s else r) :
  ∀(k i:Nat),i+k<=n->upF b f k i s=bif (List.range' i k).all p then f s else r
 | 0,i,_=>rfl
 | k+1,i,h=>by
  simp only[upF,hb i _ (by omega),List.range'_succ,List.all_cons]
  cases hp:p i with
  | true=>exact upF_all n hb k (i+1) (by omega)
  | false=>rfl
def listF {α σ R:Type} (b:α->σ->(σ->Option R)->Option R) (f:σ->Option R):List α->σ->Option R
 | [],s=>f s
 | a ::l,s=>b a s (listF b f l)
theorem upF_list {α σ R:Type} (L:List α) (d:α) {b:α->σ->(σ->Option R)->Option R} {c:Nat->σ->(σ->Option R)->Option R} {f:σ->Option R} (h:∀i s k,i<L.length->c i s k=b (L.getD i d) s k) :
  ∀(k i:Nat) (s:σ),i+k=L.length->upF c f k i s=listF b f (L.drop i) s
 | 0,i,s,hi=>by
  rw[List.drop_of_length_le (by omega)]
  rfl
 | k+1,i,s,hi=>by
  rw[List.drop_eq_getElem_cons (show i<L.length by omega)]
  simp only[upF,listF]
  rw[h _ _ _ (by omega),getD_nat (by omega)]
  congr 1
  funext s'
  exact upF_list L d h k (i+1) s' (by omega)
theorem lpK_nat {α σ R:Type} (L:List α) (d:α) (hn:L.length<=1180591620717411303423) {F:(Nat×σ->Option R)->Nat×σ->Option R} (b:α->σ->(σ->Option R)->Option R) (f:σ->Option R)
  (hb:∀again (i:Nat) s,i<L.length->F again (i,s)=b (L.getD i d) s (fun s'=>again (i+1,s'))) (hf:∀again s,F again (L.length,s)=f s) (s:σ):lpK (Nat×σ) R F (0,s)=listF b f L s :=
 (lpK_up L.length hn (fun i s=>(i,s)) (fun i s k=>b (L.getD i d) s k) f hb hf s).trans ((upF_list L d (b:=b) (fun _ _ _ _=>rfl) L.length 0 s (by omega)).trans (by rw[List.drop_zero]))
theorem lpK_int {α β σ R:Type} (L:List α) (d:α) (hn:L.length<=1180591620717411303423) {F:(β->Option R)->β->Option R} (enc:Nat->σ->β) (b:α->σ->(σ->Option R)->Option R) (f:σ->Option R)
  (hb:∀again (i:Nat) s,i<L.length->F again (enc i s)=b (L.getD i d) s (fun s'=>again (enc (i+1) s'))) (hf:∀again s,F again (enc L.length s)=f s) (s:σ):lpK β R F (enc 0 s)=listF b f L s :=
 (lpK_up L.length hn enc (fun i s k=>b (L.getD i d) s k) f hb hf s).trans ((upF_list L d (b:=b) (fun _ _ _ _=>rfl) L.length 0 s (by omega)).trans (by rw[List.drop_zero]))
theorem listF_fold {α σ R:Type} {b:α->σ->(σ->Option R)->Option R} {f:σ->Option R} (g:σ->α->σ):∀{L:List α} {s:σ},(∀a ∈ L,∀s k,b a s k=k (g s a))->listF b f L s=f (L.foldl g s)
 | [],_,_=>rfl
 | a ::L,s,h=>by
  simp only[listF,List.foldl_cons]
  rw[h a (by simp)]
  exact listF_fold g fun a' ha=>h a' (by simp[ha])
end Dn
end Go.Proofs.YtlfdhaiigdllcaaGreatDoor

namespace Go.Proofs.YtlfdhaiigdllcaaGreatDoor
open Tryz Dn Dn.Sh
abbrev Itm:=ByteArray×Int×Int×Int×Int×Int×Int
abbrev Brk:=ByteArray×Int×Int
abbrev itm0:Itm:=({ data:={ toList:=[] } },(0:Int),(0:Int),(0:Int),(0:Int),(0:Int),(0:Int))
abbrev brk0:Brk:=({ data:={ toList:=[] } },(0:Int),(0:Int))
def btw (n a b:Int):Bool:=decide (a<=n)&&decide (n<=b)
theorem btwA_ok (n a b:Int):batten_between n a b=some (btw n a b):=by
 simp only[batten_between,batten_between_b,not_or_self',Bool.and_self,cT,bif_false',ge_iff_le,btw]
theorem btwB_ok (n a b:Int):ref21_between n a b=some (btw n a b):=by
 simp only[ref21_between,ref21_between_b,not_or_self',Bool.and_self,cT,bif_false',ge_iff_le,btw]
theorem upF_chk {σ R:Type} {b:Nat->σ->(σ->Option R)->Option R} {f:σ->Option R} {q:Nat->Bool} {g:Nat->σ->σ} {r:Option R} (n:Nat) (hb:∀i s (k:σ->Option R),i<n->b i s k=bif q i then k (g i s) else r) :
  ∀(k i:Nat) (s:σ),i+k<=n->upF b f k i s=bif (List.range' i k).all q then f ((List.range' i k).foldl (fun s i=>g i s) s) else r
 | 0,i,s,_=>rfl
 | k+1,i,s,h=>by
  simp only[upF,hb i s _ (by omega),List.range'_succ,List.all_cons,List.foldl_cons]
  cases hp:q i with
  | true=>exact upF_chk n hb k (i+1) _ (by omega)
  | false=>rfl
theorem all_and {α:Type} {p q:α->Bool} {l:List α}:(l.all fun a=>p a&&q a)=(l.all p&&l.all q):=by
 rw[Bool.eq_iff_iff,Bool.and_eq_true,List.all_eq_true,List.all_eq_true,List.all_eq_true]
 constructor
 ·exact fun h=>⟨fun a ha=>((Bool.and_eq_true _ _).mp (h a ha)).1,fun a ha=>((Bool.and_eq_true _ _).mp (h a ha)).2⟩
 ·exact fun h a ha=>(Bool.and_eq_true _ _).mpr ⟨h.1 a ha,h.2 a ha⟩
def earlyN {α:Type} (p:α->α->Bool) (d:α) (l:List α) (i:Nat):Bool:=!(l.take i).any fun a=>p a (l.getD i d)
theorem memK_str (x:ByteArray):∀l:List ByteArray,memK .str x l=true↔x ∈ l
 | []=>by simp[memK]
 | y ::l=>by
  simp only[memK,keyEq,Bool.or_eq_true,memK_str x l,List.mem_cons,decide_eq_true_iff]
def nodupB:List ByteArray->Bool
 | []=>true
 | x ::l=>!memK .str x l&&nodupB l
theorem nodupB_iff:∀{l:List ByteArray},nodupB l=true↔l.Nodup
 | []=>by simp[nodupB]
 | x ::l=>by
  rw[nodupB,Bool.and_eq_true,nodupB_iff,List.nodup_cons,<-memK_str,Bool.not_eq_true',Bool.not_eq_true]
theorem addK_fold:∀(L S:List ByteArray),(L.foldl (fun s x=>addK .str x s) S).length<=S.length+L.length/\((L.foldl (fun s x=>addK .str x s) S).length=S.length+L.length↔L.Nodup/\∀x ∈ L,x ∉ S)
 | [],S=>by simp
 | x ::L,S=>by
  simp only[List.foldl_cons,List.length_cons]
  by_cases hx:x ∈ S
  ·have e:addK .str x S=S:=by unfold addK;rw[(memK_str x S).2 hx];rfl
   rw[e]
   obtain ⟨h1,_⟩:=addK_fold L S
   refine ⟨by omega,fun h=>by omega,fun h=>?_⟩
   exact absurd hx (h.2 x (by simp))
  ·have e:addK .str x S=S++[x]:=by
    unfold addK
    cases hm:memK .str x S with
    | false=>rfl
    | true=>exact absurd ((memK_str x S).1 hm) hx
   rw[e]
   obtain ⟨h1,h2⟩:=addK_fold L (S++[x])
   rw[List.length_append,List.length_singleton] at h1 h2
   refine ⟨by omega,?_⟩
   rw[show S.length+(L.length+1)=S.length+1+L.length by omega,h2,List.nodup_cons]
   constructor
   ·rintro ⟨g1,g2⟩
    refine ⟨⟨fun hm=>(g2 x hm) (by simp),g1⟩,fun y hy=>?_⟩
    rcases List.mem_cons.1 hy with rfl | hy
    ·exact hx
    ·exact fun hs=>g2 y hy (by simp[hs])
   ·rintro ⟨⟨g1,g2⟩,g3⟩
    refine ⟨g2,fun y hy hm=>?_⟩
    rcases List.mem_append.1 hm with hm | hm
    ·exact g3 y (by simp[hy]) hm
    ·rw[List.mem_singleton] at hm
     subst hm
     exact g1 hy
theorem addK_foldm {α:Type} (f:α->ByteArray) (l:List α):decide (((l.foldl (fun (s:List ByteArray) x=>addK .str (f x) s) []).length:Int)<(l.length:Int))=!nodupB (l.map f):=by
 have h:=addK_fold (l.map f) []
 have e:(l.map f).foldl (fun s x=>addK .str x s) []=l.foldl (fun (s:List ByteArray) x=>addK .str (f x) s) []:=by rw[List.foldl_map]
 rw[e] at h
 generalize (l.foldl (fun (s:List ByteArray) x=>addK .str (f x) s) []).length=N at h ⊢
 simp only[List.length_map,List.length_nil,Nat.zero_add,List.not_mem_nil,not_false_eq_true,implies_true,and_true] at h
 cases hn:nodupB (l.map f) with
 | true =>
  have:=h.2.2 (nodupB_iff.1 hn)
  rw[decide_eq_false (by omega)]
  rfl
 | false =>
  have h3:¬ (l.map f).Nodup:=fun hh=>by rw[nodupB_iff.2 hh] at hn;cases hn
  have h4:¬ N=l.length:=fun hh=>h3 (h.2.1 hh)
  have:=h.1
  rw[decide_eq_true (by omega)]
  rfl
theorem range_fold {α σ:Type} {d:α} {g:σ->α->σ} {l:List α}:∀(k i:Nat) (s:σ),i+k=l.length->(List.range' i k).foldl (fun s i=>g s (l.getD i d)) s=(l.drop i).foldl g s
 | 0,i,s,h=>by rw[List.drop_of_length_le (by omega)];rfl
 | k+1,i,s,h=>by
  rw[List.range'_succ,List.foldl_cons,range_fold k (i+1) _ (by omega),List.drop_eq_getElem_cons (show i<l.length by omega),List.foldl_cons,getD_nat (by omega)]
theorem early_nodup {α:Type} {d:α} {f:α->ByteArray} {l:List α}:(List.range' 0 l.length).all (earlyN (fun a b=>decide (f a=f b)) d l)=nodupB (l.map f):=by
 rw[Bool.eq_iff_iff,nodupB_iff,List.all_eq_true,List.nodup_iff_pairwise_ne,List.pairwise_iff_getElem]
 simp only[List.length_map,List.getElem_map]
 constructor
 ·intro h i j hi hj hij he
  have h1:=h j (List.mem_range'.2 ⟨j,hj,by omega⟩)
  unfold earlyN at h1
  rw[Bool.not_eq_true',List.any_eq_false] at h1
  have h2:=h1 l[i] (List.mem_take_iff_getElem.2 ⟨i,by omega,rfl⟩)
  rw[getD_nat hj] at h2
  exact h2 (decide_eq_true he)
 ·intro h k hk
  obtain ⟨j,hj,rfl⟩:=List.mem_range'.1 hk
  unfold earlyN
  rw[Bool.not_eq_true',List.any_eq_false]
  intro a ha he
  obtain ⟨i,hi,rfl⟩:=List.mem_take_iff_getElem.1 ha
  rw[getD_nat (by omega)] at he
  exact h i (0+1*j) (by omega) (by omega) (by omega) (of_decide_eq_true he)
theorem not_any_idx {α:Type} {p:α->Bool} {l:List α}:decide (idxI p l 0>=0)=l.any p:=by
 have:=idxI_neg (p:=p) (l:=l) (i:=0) (by omega)
 rw[Bool.eq_iff_iff,decide_eq_true_iff,List.any_eq_true]
 constructor
 ·intro h1
  by_cases h2:∃a ∈ l,p a=true
  ·exact h2
  ·have:idxI p l 0<0:=this.2 fun a ha=>by
    cases e:p a with
    | false=>rfl
    | true=>exact (h2 ⟨a,ha,e⟩).elim
   omega
 ·rintro ⟨a,ha,h3⟩
  by_cases h2:idxI p l 0<0
  ·rw[this.1 h2 a ha] at h3;cases h3
  ·omega
theorem early_loopF {α:Type} {p:α->Bool} {d:α} {l:List α} {i:Nat} (hl:l.length<=1000000) (hi:i<=l.length) {R:Type} {yes no:Option R} {F:(Int×PUnit->Option R)->Int×PUnit->Option R}
  (hb:∀again (j:Nat),j<i->F again ((j:Int),PUnit.unit)=bif p (l.getD j d) then yes else again (((j+1:Nat):Int),PUnit.unit)) (hf:∀again,F again ((i:Int),PUnit.unit)=no) :
  lpK (Int×PUnit) R F ((0:Int),PUnit.unit)=bif (l.take i).any p then yes else no:=by
 refine (lpK_up (α:=Int×PUnit) i (by omega) (fun j (_:Unit)=>((j:Int),PUnit.unit)) (fun j s k=>bif !p (l.getD j d) then k s else yes) (fun _=>no) ?_ ?_ ()).trans ?_
 ·intro again j _ hj
  rw[hb again j hj]
  cases p (l.getD j d)<;>rfl
 ·intro again _
  exact hf again
 ·refine (upF_all (p:=fun j=>!p (l.getD j d)) (r:=yes) i (fun _ _ _=>rfl) i 0 (by omega)).trans ?_
  have h:(List.range' 0 i).all (fun j=>!p (l.getD j d))=!(l.take i).any p:=by
   rw[Bool.eq_iff_iff,List.all_eq_true,Bool.not_eq_true',List.any_eq_false]
   constructor
   ·intro h1 a ha
    obtain ⟨j,hj,rfl⟩:=List.mem_take_iff_getElem.1 ha
    have:=h1 j (List.mem_range'.2 ⟨j,by omega,by omega⟩)
    rw[getD_nat (by omega)] at this
    simpa using this
   ·intro h1 j hj
    obtain ⟨k,hk,rfl⟩:=List.mem_range'.1 hj
    have h2:=h1 l[0+1*k] (List.mem_take_iff_getElem.2 ⟨0+1*k,by omega,rfl⟩)
    rw[getD_nat (by omega)]
    simpa using h2
  rw[h]
  cases (l.take i).any p<;>rfl
noncomputable def itemB (len:Int) (x:Itm):Bool:=nameB x.1&&(btw x.2.2.1 1 1048576&&(btw x.2.1 0 (IntKind.wrap .i64 (len - x.2.2.1))&&(btw x.2.2.2.1 0 1048576&&(btw x.2.2.2.2.1 0 1048576&&(btw x.2.2.2.2.2.1 0 1048576&&btw x.2.2.2.2.2.2 0 1048576)))))
def apartB (x y:Itm):Bool:=decide (IntKind.wrap .i64 (x.2.1+x.2.2.1)<=y.2.1)||decide (IntKind.wrap .i64 (y.2.1+y.2.2.1)<=x.2.1)
theorem apartB_comm (x y:Itm):apartB x y=apartB y x:=by unfold apartB;rw[Bool.or_comm]
noncomputable def itemsB (l:List Itm) (len:Int):Bool:=decide (l.length<=40)&&(l.all (itemB len)&&(nodupB (l.map fun x=>x.1)&&(List.range' 0 l.length).all (earlyN (fun a b=>!apartB a b) itm0 l)))
theorem all_range {α:Type} {p:α->Bool} {d:α} {l:List α}:(List.range' 0 l.length).all (fun i=>p (l.getD i d))=l.all p:=by
 rw[Bool.eq_iff_iff,List.all_eq_true,List.all_eq_true]
 constructor
 ·intro h a ha
  obtain ⟨j,hj,rfl⟩:=List.getElem_of_mem ha
  have:=h j (List.mem_range'.2 ⟨j,hj,by omega⟩)
  rw[getD_nat hj] at this
  exact this
 ·intro h j hj
  obtain ⟨k,hk,rfl⟩:=List.mem_range'.1 hj
  rw[getD_nat (by omega)]
  exact h _ (List.getElem_mem _)
theorem apartA_ok (x y:Itm):batten_apart x y=some (apartB x y):=by
 simp only[batten_apart,batten_apart_b,apartB]
 cases decide (IntKind.wrap .i64 (x.2.1+x.2.2.1)<=y.2.1)<;>cases decide (IntKind.wrap .i64 (y.2.1+y.2.2.1)<=x.2.1)<;>rfl
theorem apartR_ok (x y:Itm):ref21_Apart x y=some (apartB x y):=by
 simp only[ref21_Apart,ref21_Apart_b,apartB]
 cases decide (IntKind.wrap .i64 (x.2.1+x.2.2.1)<=y.2.1)<;>cases decide (IntKind.wrap .i64 (y.2.1+y.2.2.1)<=x.2.1)<;>rfl
theorem aloneA_ok (x:Itm):batten_alone x=some (nameB x.1&&(btw x.2.2.2.1 0 1048576&&(btw x.2.2.2.2.1 0 1048576&&(btw x.2.2.2.2.2.1 0 1048576&&btw x.2.2.2.2.2.2 0 1048576)))):=by
 simp only[batten_alone,batten_alone_b,isName_ok,btwA_ok,obind_some',not_or_self',cT]
 cases nameB x.1<;>cases btw x.2.2.2.1 0 1048576<;>cases btw x.2.2.2.2.1 0 1048576<;>cases btw x.2.2.2.2.2.1 0 1048576<;>cases btw x.2.2.2.2.2.2 0 1048576<;>rfl
theorem insideA_ok (x:Itm) (len:Int):batten_inside x len=some (btw x.2.2.1 1 1048576&&btw x.2.1 0 (IntKind.wrap .i64 (len - x.2.2.1))):=by
 simp only[batten_inside,batten_inside_b,btwA_ok,not_or_self',cT,Bool.and_self,ge_iff_le]
 rw[show btw x.2.1 0 (IntKind.wrap .i64 (len - x.2.2.1))=(decide (0<=x.2.1)&&decide (x.2.1<=IntKind.wrap .i64 (len - x.2.2.1))) from rfl]
 cases decide (0<=x.2.1)<;>cases btw x.2.2.1 1 1048576<;>cases decide (x.2.1<=IntKind.wrap .i64 (len - x.2.2.1))<;>rfl
theorem aloneR_ok (x:Itm) (len:Int):ref21_alone x len=some (itemB len x):=by
 simp only[ref21_alone,ref21_alone_b,refIsName_ok,btwB_ok,obind_some',not_or_self',Bool.and_self,cT,itemB]
 cases nameB x.1<;>cases btw x.2.2.1 1 1048576<;>cases btw x.2.1 0 (IntKind.wrap .i64 (len - x.2.2.1))<;>cases btw x.2.2.2.1 0 1048576<;>cases btw x.2.2.2.2.1 0 1048576<;>cases btw x.2.2.2.2.2.1 0 1048576<;>cases btw x.2.2.2.2.2.2 0 1048576<;>rfl
theorem twiceI_ok {l:List Itm} (hl:l.length<=1000000):batten_twice_100 l (fun x=>batten_items_1 x.1)=some (!nodupB (l.map fun x=>x.1)):=by
 simp only[batten_twice_100,batten_twice_100_b,batten_items_1,batten_items_1_b,obind_some']
 refine (lpK_int l itm0 (by omega) (fun i (s:List ByteArray)=>(((i:Nat):Int),s,PUnit.unit)) (fun x s k=>k (addK .str x.1 s)) (fun s=>some (decide ((s.length:Int)<(l.length:Int)))) ?_ ?_ []).trans ?_
 ·intro again i s hi
  have hw:IntKind.wrap .i64 ((i:Int)+1)=((i+1:Nat):Int):=by rw[wrap_id (by omega) (by omega)];rfl
  simp only[inB_nat,decide_eq_true hi,decide_eq_true (show (i:Int)<l.length by omega),cT,Int.toNat_natCast,hw]
 ·intro again s
  simp only[decide_eq_false (show ¬ (l.length:Int)<l.length by omega),cF]
 ·rw[listF_fold (fun (s:List ByteArray) (x:Itm)=>addK .str x.1 s) (fun _ _ _ _=>rfl)]
  congr 1
  exact addK_foldm (fun x:Itm=>x.1) l
theorem twiceB_ok {l:List Brk} (hl:l.length<=1000000):batten_twice_103 l (fun x=>batten_bricks_1 x.1)=some (!nodupB (l.map fun x=>x.1)):=by
 simp only[batten_twice_103,batten_twice_103_b,batten_bricks_1,batten_bricks_1_b,obind_some']
 refine (lpK_int l brk0 (by omega) (fun i (s:List ByteArray)=>(((i:Nat):Int),s,PUnit.unit)) (fun x s k=>k (addK .str x.1 s)) (fun s=>some (decide ((s.length:Int)<(l.length:Int)))) ?_ ?_ []).trans ?_
 ·intro again i s hi
  have hw:IntKind.wrap .i64 ((i:Int)+1)=((i+1:Nat):Int):=by rw[wrap_id (by omega) (by omega)];rfl
  simp only[inB_nat,decide_eq_true hi,decide_eq_true (show (i:Int)<l.length by omega),cT,Int.toNat_natCast,hw]
 ·intro again s
  simp only[decide_eq_false (show ¬ (l.length:Int)<l.length by omega),cF]
 ·rw[listF_fold (fun (s:List ByteArray) (x:Brk)=>addK .str x.1 s) (fun _ _ _ _=>rfl)]
  congr 1
  exact addK_foldm (fun x:Brk=>x.1) l
theorem containsI {f:(Itm×Unit)->Option Bool} {p:Itm->Bool} {l:List Itm} (hl:l.length<=1000000) (h:∀a,a ∈ l->f (a,())=some (p a)):slices_ContainsFunc_25 l f=some (l.any p):=by
 simp only[slices_ContainsFunc_25,slices_ContainsFunc_25_b]
 unfold slices_IndexFunc_66 slices_IndexFunc_66_b
 rw[index_loop (f:=f) (d:=itm0) hl h,obind_some',not_any_idx]
theorem containsB {f:(Brk×Unit)->Option Bool} {p:Brk->Bool} {l:List Brk} (hl:l.length<=1000000) (h:∀a,a ∈ l->f (a,())=some (p a)):slices_ContainsFunc_109 l f=some (l.any p):=by
 simp only[slices_ContainsFunc_109,slices_ContainsFunc_109_b]
 unfold slices_IndexFunc_131 slices_IndexFunc_131_b
 rw[index_loop (f:=f) (d:=brk0) hl h,obind_some',not_any_idx]
theorem itemsA_ok (l:List Itm) (len:Int):batten_items l len=some (itemsB l len):=by
 simp only[batten_items,batten_items_b,itemsB]
 by_cases h0:l.length<=40
 ·rw[decide_eq_false (show ¬ ((l.length:Nat):Int)>40 by omega),decide_eq_true h0]
  simp only[Bool.not_false,Bool.not_true,Bool.or_true,cT,cF,twiceI_ok (show l.length<=1000000 by omega),obind_some',Bool.true_and]
  cases hd:nodupB (l.map fun x=>x.1) with
  | false=>simp
  | true =>
   simp only[Bool.not_true,cF,Bool.true_and]
   refine (lpK_up (α:=Int×PUnit) l.length (by omega) (fun i (_:Unit)=>((i:Int),PUnit.unit)) (fun i s k=>bif itemB len (l.getD i itm0)&&earlyN (fun a b=>!apartB a b) itm0 l i then k s else some false) (fun _=>some true) ?_ ?_ ()).trans ?_
   ·intro again i _ hi
    have hw:IntKind.wrap .i64 ((i:Int)+1)=((i+1:Nat):Int):=by rw[wrap_id (by omega) (by omega)];rfl
    have hs:slB (0:Int) (i:Int) l.length=true:=slB_of (by omega) (by omega) (by omega)
    have hc:slices_ContainsFunc_25 (List.drop 0 (List.take i l)) (fun x=>batten_items_2 x.1 (l.getD i itm0))=some ((l.take i).any fun a=>!apartB a (l.getD i itm0)) :=
     containsI (l:=List.drop 0 (List.take i l)) (by rw[List.drop_zero,List.length_take];omega) fun a _=>by
      simp only[batten_items_2,batten_items_2_b,apartA_ok,obind_some']
      rw[apartB_comm]
    simp only[inB_nat,decide_eq_true hi,decide_eq_true (show (i:Int)<l.length by omega),cT,Int.toNat_natCast,hw,show List.getD l i ({ data:={ toList:=[] } },(0:Int),(0:Int),(0:Int),(0:Int),(0:Int),(0:Int))=l.getD i itm0 from rfl,aloneA_ok,insideA_ok,obind_some',hs,hc,Bool.or_true,not_or_self',Bool.and_self]
    unfold earlyN itemB
    generalize (l.take i).any (fun a=>!apartB a (l.getD i itm0))=q
    generalize l.getD i itm0=x
    cases nameB x.1<;>cases btw x.2.2.1 1 1048576<;>cases btw x.2.1 0 (IntKind.wrap .i64 (len - x.2.2.1))<;>cases btw x.2.2.2.1 0 1048576<;>cases btw x.2.2.2.2.1 0 1048576<;>cases btw x.2.2.2.2.2.1 0 1048576<;>cases btw x.2.2.2.2.2.2 0 1048576<;>cases q<;>rfl
   ·intro again _
    simp only[decide_eq_false (show ¬ (l.length:Int)<l.length by omega),cF]
   ·rw[upF_all l.length (fun i k _=>rfl) l.length 0 (by omega),all_and,all_range]
    cases l.all (itemB len)&&(List.range' 0 l.length).all (earlyN (fun a b=>!apartB a b) itm0 l)<;>rfl
 ·rw[decide_eq_true (show ((l.length:Nat):Int)>40 by omega),decide_eq_false h0]
  rfl
abbrev HS:=ByteArray×Int×Int×Int×Int×List Int×Int×Int×Int×Int×Int×List Itm×List Brk
theorem any_or {α:Type} {p q:α->Bool} {l:List α}:(l.any fun a=>p a||q a)=(l.any p||l.any q):=by
 rw[Bool.eq_iff_iff,Bool.or_eq_true,List.any_eq_true,List.any_eq_true,List.any_eq_true]
 constructor
 ·rintro ⟨a,ha,h⟩
  rcases (Bool.or_eq_true _ _).mp h with h | h
  ·exact .inl ⟨a,ha,h⟩
  ·exact .inr ⟨a,ha,h⟩
 ·rintro (⟨a,ha,h⟩ | ⟨a,ha,h⟩)
  ·exact ⟨a,ha,(Bool.or_eq_true _ _).mpr (.inl h)⟩
  ·exact ⟨a,ha,(Bool.or_eq_true _ _).mpr (.inr h)⟩
theorem itemsR_ok (nm:ByteArray) (dp lo hi len:Int) (ls:List Int) (pi ar pu mo br:Int) (l:List Itm) (bs:List Brk) (hl:l.length<=1000000):ref21_items (nm,dp,lo,hi,len,ls,pi,ar,pu,mo,br,l,bs)=some (itemsB l len):=by
 simp only[ref21_items,ref21_items_b,itemsB]
 by_cases h0:l.length<=40
 ·rw[decide_eq_false (show ¬ ((l.length:Nat):Int)>40 by omega),decide_eq_true h0]
  simp only[cF,Bool.true_and]
  refine (lpK_up (α:=Int×PUnit) l.length (by omega) (fun i (_:Unit)=>((i:Int),PUnit.unit)) (fun i s k=>bif itemB len (l.getD i itm0)&&(earlyN (fun a b=>decide (a.1=b.1)) itm0 l i&&earlyN (fun a b=>!apartB a b) itm0 l i) then k s else some false) (fun _=>some true) ?_ ?_ ()).trans ?_
  ·intro again i _ hi
   have hw:IntKind.wrap .i64 ((i:Int)+1)=((i+1:Nat):Int):=by rw[wrap_id (by omega) (by omega)];rfl
   simp only[inB_nat,decide_eq_true hi,decide_eq_true (show (i:Int)<l.length by omega),cT,Int.toNat_natCast,hw,show List.getD l i ({ data:={ toList:=[] } },(0:Int),(0:Int),(0:Int),(0:Int),(0:Int),(0:Int))=l.getD i itm0 from rfl,aloneR_ok,apartR_ok,obind_some',str_beq,not_or_self',or_self_not,Bool.and_self]
   cases hI:itemB len (l.getD i itm0) with
   | false=>simp
   | true =>
    simp only[Bool.not_true,cF,Bool.true_and]
    refine (early_loopF (p:=fun a:Itm=>decide (a.1=(l.getD i itm0).1)||!apartB a (l.getD i itm0)) (d:=itm0) (l:=l) (i:=i) (yes:=some false) (no:=again (((i+1:Nat):Int),PUnit.unit)) hl (by omega) ?_ ?_).trans ?_
    ·intro again_1 j hj
     have hw2:IntKind.wrap .i64 ((j:Int)+1)=((j+1:Nat):Int):=by rw[wrap_id (by omega) (by omega)];rfl
     simp only[inB_nat,decide_eq_true (show (j:Int)<i by omega),decide_eq_true (show j<l.length by omega),cT,Int.toNat_natCast,hw2,show List.getD l j ({ data:={ toList:=[] } },(0:Int),(0:Int),(0:Int),(0:Int),(0:Int),(0:Int))=l.getD j itm0 from rfl]
     cases decide ((l.getD j itm0).1=(l.getD i itm0).1)<;>cases apartB (l.getD j itm0) (l.getD i itm0)<;>rfl
    ·intro again_1
     simp only[decide_eq_false (show ¬ (i:Int)<i by omega),cF]
    ·rw[any_or]
     unfold earlyN
     cases (l.take i).any fun a:Itm=>decide (a.1=(l.getD i itm0).1)<;>cases (l.take i).any fun a:Itm=>!apartB a (l.getD i itm0)<;>rfl
  ·intro again _
   simp only[decide_eq_false (show ¬ (l.length:Int)<l.length by omega),cF]
  ·rw[upF_all l.length (fun i k _=>rfl) l.length 0 (by omega),all_and,all_and,all_range,early_nodup (f:=fun x:Itm=>x.1)]
   cases l.all (itemB len)&&(nodupB (l.map fun x=>x.1)&&(List.range' 0 l.length).all (earlyN (fun a b=>!apartB a b) itm0 l))<;>rfl
 ·rw[decide_eq_true (show ((l.length:Nat):Int)>40 by omega),decide_eq_false h0]
  rfl
noncomputable def brickB (b:Brk):Bool:=nameB b.1&&(btw b.2.1 1 1048576&&btw b.2.2 0 60)
def addW (s:Int) (b:Brk):Int:=IntKind.wrap .i64 (s+b.2.2)
noncomputable def bricksB (l:List Brk):Bool:=decide (l.length<=8)&&(l.all brickB&&(nodupB (l.map fun x=>x.1)&&decide (l.foldl addW 0<=60)))
theorem bricksA_ok (l:List Brk):batten_bricks l=some (bricksB l):=by
 simp only[batten_bricks,batten_bricks_b,bricksB]
 by_cases h0:l.length<=8
 ·rw[decide_eq_false (show ¬ ((l.length:Nat):Int)>8 by omega),decide_eq_true h0]
  simp only[Bool.not_false,Bool.not_true,Bool.or_true,cT,cF,twiceB_ok (show l.length<=1000000 by omega),obind_some',Bool.true_and]
  cases hd:nodupB (l.map fun x=>x.1) with
  | false=>simp
  | true =>
   simp only[Bool.not_true,cF,Bool.true_and]
   refine (lpK_up (α:=Int×Int×PUnit) l.length (by omega) (fun i (s:Int)=>(s,(i:Int),PUnit.unit)) (fun i s k=>bif brickB (l.getD i brk0) then k (addW s (l.getD i brk0)) else some false) (fun s=>some (decide (s<=60))) ?_ ?_ 0).trans ?_
   ·intro again i s hi
    have hw:IntKind.wrap .i64 ((i:Int)+1)=((i+1:Nat):Int):=by rw[wrap_id (by omega) (by omega)];rfl
    simp only[inB_nat,decide_eq_true hi,decide_eq_true (show (i:Int)<l.length by omega),cT,Int.toNat_natCast,hw,show List.getD l i ({ data:={ toList:=[] } },(0:Int),(0:Int))=l.getD i brk0 from rfl,isName_ok,btwA_ok,obind_some',not_or_self']
    unfold brickB addW
    generalize l.getD i brk0=b
    cases nameB b.1<;>cases btw b.2.1 1 1048576<;>cases btw b.2.2 0 60<;>rfl
   ·intro again s
    simp only[decide_eq_false (show ¬ (l.length:Int)<l.length by omega),cF]
   ·rw[upF_chk (q:=fun i=>brickB (l.getD i brk0)) (g:=fun i s=>addW s (l.getD i brk0)) (r:=some false) l.length (fun i s k _=>rfl) l.length 0 0 (by omega),all_range,range_fold (g:=addW) (d:=brk0) l.length 0 0 (by omega),List.drop_zero]
    cases l.all brickB<;>rfl
 ·rw[decide_eq_true (show ((l.length:Nat):Int)>8 by omega),decide_eq_false h0]
  rfl
theorem bricksR_ok (l:List Brk):ref21_Bricks l=some (bricksB l):=by
 simp only[ref21_Bricks,ref21_Bricks_b,bricksB]
 by_cases h0:l.length<=8
 ·rw[decide_eq_false (show ¬ ((l.length:Nat):Int)>8 by omega),decide_eq_true h0]
  simp only[cF,Bool.true_and]
  refine (lpK_up (α:=Int×Int×PUnit) l.length (by omega) (fun i (s:Int)=>(s,(i:Int),PUnit.unit)) (fun i s k=>bif brickB (l.getD i brk0)&&earlyN (fun a b=>decide (a.1=b.1)) brk0 l i then k (addW s (l.getD i brk0)) else some false) (fun s=>some (decide (s<=60))) ?_ ?_ 0).trans ?_
  ·intro again i s hi
   have hw:IntKind.wrap .i64 ((i:Int)+1)=((i+1:Nat):Int):=by rw[wrap_id (by omega) (by omega)];rfl
   simp only[inB_nat,decide_eq_true hi,decide_eq_true (show (i:Int)<l.length by omega),cT,Int.toNat_natCast,hw,show List.getD l i ({ data:={ toList:=[] } },(0:Int),(0:Int))=l.getD i brk0 from rfl,refIsName_ok,btwB_ok,obind_some',str_beq,not_or_self',or_self_not]
   have hB:brickB (l.getD i brk0)=(nameB (l.getD i brk0).1&&(btw (l.getD i brk0).2.1 1 1048576&&btw (l.getD i brk0).2.2 0 60)):=rfl
   rw[hB]
   cases nameB (l.getD i brk0).1 with
   | false=>rfl
   | true=>cases btw (l.getD i brk0).2.1 1 1048576 with
    | false=>rfl
    | true=>cases btw (l.getD i brk0).2.2 0 60 with
     | false=>rfl
     | true =>
      simp only[Bool.not_true,Bool.not_false,cF,cT,Bool.true_and,Bool.or_true,obind_some']
      refine (early_loopF (p:=fun a:Brk=>decide (a.1=(l.getD i brk0).1)) (d:=brk0) (l:=l) (i:=i) (yes:=some false) (no:=again (addW s (l.getD i brk0),((i+1:Nat):Int),PUnit.unit)) (by omega) (by omega) ?_ ?_).trans ?_
      ·intro again_1 j hj
       have hw2:IntKind.wrap .i64 ((j:Int)+1)=((j+1:Nat):Int):=by rw[wrap_id (by omega) (by omega)];rfl
       simp only[inB_nat,decide_eq_true (show (j:Int)<i by omega),decide_eq_true (show j<l.length by omega),cT,Int.toNat_natCast,hw2]
      ·intro again_1
       simp only[decide_eq_false (show ¬ (i:Int)<i by omega),cF]
       rfl
      ·unfold earlyN
       cases (l.take i).any fun a:Brk=>decide (a.1=(l.getD i brk0).1)<;>rfl
  ·intro again s
   simp only[decide_eq_false (show ¬ (l.length:Int)<l.length by omega),cF]
  ·rw[upF_chk (q:=fun i=>brickB (l.getD i brk0)&&earlyN (fun a b=>decide (a.1=b.1)) brk0 l i) (g:=fun i s=>addW s (l.getD i brk0)) (r:=some false) l.length (fun i s k _=>rfl) l.length 0 0 (by omega),all_and,all_range,early_nodup (f:=fun x:Brk=>x.1),range_fold (g:=addW) (d:=brk0) l.length 0 0 (by omega),List.drop_zero]
   cases l.all brickB<;>cases nodupB (l.map fun x=>x.1)<;>rfl
 ·rw[decide_eq_true (show ((l.length:Nat):Int)>8 by omega),decide_eq_false h0]
  rfl
def lineB (l:List Int) (len:Int) (i:Nat):Bool:=btw (l.getD i 0) 0 len&&(decide (i=0)||decide (l.getD (i - 1) 0<l.getD i 0))
def linesB (l:List Int) (len:Int):Bool:=btw (l.length:Int) 2 10&&(List.range' 0 l.length).all (lineB l len)
theorem lines_eq {l:List Int} {len:Int} (h2:2<=l.length):(decide (0<=l.getD 0 0)&&(decide (l.getD (l.length - 1) 0<=len)&&(List.range' 0 (l.length - 1)).all fun i=>decide (l.getD i 0<l.getD (i+1) 0)))=(List.range' 0 l.length).all (lineB l len):=by
 rw[Bool.eq_iff_iff,Bool.and_eq_true,Bool.and_eq_true,List.all_eq_true,List.all_eq_true,decide_eq_true_iff,decide_eq_true_iff]
 constructor
 ·rintro ⟨h0,h1,h3⟩ i hi
  obtain ⟨k,hk,rfl⟩:=List.mem_range'.1 hi
  have step:∀i,i+1<l.length->l.getD i 0<l.getD (i+1) 0:=fun i hi=>of_decide_eq_true (h3 i (List.mem_range'.2 ⟨i,by omega,by omega⟩))
  have mono:∀d i,i+d<l.length->l.getD i 0<=l.getD (i+d) 0:=by
   intro d
   induction d with
   | zero=>intro i _;exact Int.le_refl _
   | succ d ih =>
    intro i hi
    have g1:=ih i (by omega)
    have g2:=step (i+d) (by omega)
    rw[show i+(d+1)=i+d+1 by omega]
    omega
  have g1:=mono (0+1*k) 0 (by omega)
  have g2:=mono (l.length - 1 - (0+1*k)) (0+1*k) (by omega)
  rw[Nat.zero_add] at g1
  rw[show 0+1*k+(l.length - 1 - (0+1*k))=l.length - 1 by omega] at g2
  unfold lineB btw
  rw[Bool.and_eq_true,Bool.and_eq_true,Bool.or_eq_true,decide_eq_true_iff,decide_eq_true_iff,decide_eq_true_iff,decide_eq_true_iff]
  refine ⟨⟨by omega,by omega⟩,?_⟩
  by_cases hz:0+1*k=0
  ·exact .inl hz
  ·right
   have:=step (0+1*k - 1) (by omega)
   rw[show 0+1*k - 1+1=0+1*k by omega] at this
   exact this
 ·intro h
  have at':∀i,i<l.length->(0<=l.getD i 0/\l.getD i 0<=len)/\(i=0\/l.getD (i - 1) 0<l.getD i 0):=fun i hi=>by
   have:=h i (List.mem_range'.2 ⟨i,hi,by omega⟩)
   unfold lineB btw at this
   rw[Bool.and_eq_true,Bool.and_eq_true,Bool.or_eq_true,decide_eq_true_iff,decide_eq_true_iff,decide_eq_true_iff,decide_eq_true_iff] at this
   exact this
  refine ⟨(at' 0 (by omega)).1.1,(at' (l.length - 1) (by omega)).1.2,fun i hi=>?_⟩
  obtain ⟨k,hk,rfl⟩:=List.mem_range'.1 hi
  have:=(at' (0+1*k+1) (by omega)).2
  rw[decide_eq_true_iff]
  rcases this with h | h
  ·omega
  ·rw[Nat.add_sub_cancel] at h
   exact h
theorem linesA_ok (l:List Int) (len:Int):batten_lines l len=some (linesB l len):=by
 simp only[batten_lines,batten_lines_b,btwA_ok,obind_some',linesB]
 cases hb:btw (l.length:Int) 2 10 with
 | false=>rfl
 | true =>
  have h2:2<=l.length/\l.length<=10:=by
   unfold btw at hb
   rw[Bool.and_eq_true,decide_eq_true_iff,decide_eq_true_iff] at hb
   omega
  have hw0:IntKind.wrap .i64 ((l.length:Int) - 1)=((l.length - 1:Nat):Int):=by rw[wrap_id (by omega) (by omega)];omega
  rw[<-lines_eq h2.1]
  simp only[hw0,Int.toNat_natCast,inB_nat,inB_of (show (0:Int)<=0 by omega) (show (0:Int)<(l.length:Nat) by omega),decide_eq_true (show l.length - 1<l.length by omega),Bool.not_true,Bool.not_false,Bool.or_true,Bool.and_self,Bool.true_and,cT,cF,not_or_self',or_self_not]
  by_cases g0:l.getD 0 0<0
  ·rw[decide_eq_true g0,decide_eq_false (show ¬ 0<=l.getD 0 0 by omega)]
   rfl
  ·rw[decide_eq_false g0,decide_eq_true (show 0<=l.getD 0 0 by omega)]
   by_cases g1:l.getD (l.length - 1) 0>len
   ·rw[decide_eq_true g1,decide_eq_false (show ¬ l.getD (l.length - 1) 0<=len by omega)]
    rfl
   ·rw[decide_eq_false g1,decide_eq_true (show l.getD (l.length - 1) 0<=len by omega)]
    simp only[Bool.true_and,cF]
    refine (lpK_up (α:=Int×PUnit) (l.length - 1) (by omega) (fun i (_:Unit)=>(((i+1:Nat):Int),PUnit.unit)) (fun i s k=>bif decide (l.getD i 0<l.getD (i+1) 0) then k s else some false) (fun _=>some true) ?_ ?_ ()).trans ?_
    ·intro again i _ hi
     have hw:IntKind.wrap .i64 (((i+1:Nat):Int)+1)=((i+1+1:Nat):Int):=by rw[wrap_id (by omega) (by omega)];omega
     have hw1:IntKind.wrap .i64 (((i+1:Nat):Int) - 1)=((i:Nat):Int):=by rw[wrap_id (by omega) (by omega)];omega
     simp only[hw,hw1,inB_nat,decide_eq_true (show ((i+1:Nat):Int)<l.length by omega),decide_eq_true (show i+1<l.length by omega),decide_eq_true (show i<l.length by omega),cT,Int.toNat_natCast]
     by_cases hc:l.getD i 0<l.getD (i+1) 0
     ·rw[decide_eq_true hc,decide_eq_false (show ¬ l.getD (i+1) 0<=l.getD i 0 by omega)];rfl
     ·rw[decide_eq_false hc,decide_eq_true (show l.getD (i+1) 0<=l.getD i 0 by omega)];rfl
    ·intro again _
     simp only[decide_eq_false (show ¬ ((l.length - 1+1:Nat):Int)<l.length by omega),cF]
    ·rw[upF_all (l.length - 1) (fun i k _=>rfl) (l.length - 1) 0 (by omega)]
     cases (List.range' 0 (l.length - 1)).all fun i=>decide (l.getD i 0<l.getD (i+1) 0)<;>rfl
noncomputable def setB (s:HS):Bool:=nameB s.1&&(btw s.2.1 0 1048576&&(btw s.2.2.1 0 s.2.2.2.1&&(btw s.2.2.2.1 0 1048576&&(btw s.2.2.2.2.1 1000 1048576&&(decide (Int.tmod s.2.2.2.2.1 1000=0)&&(linesB s.2.2.2.2.2.1 s.2.2.2.2.1 &&
 (btw s.2.2.2.2.2.2.1 0 1048576&&(btw s.2.2.2.2.2.2.2.1 0 1048576&&(btw s.2.2.2.2.2.2.2.2.1 1 2&&(btw s.2.2.2.2.2.2.2.2.2.1 1 67108864&&(btw s.2.2.2.2.2.2.2.2.2.2.1 0 67108864&&(itemsB s.2.2.2.2.2.2.2.2.2.2.2.1 s.2.2.2.2.1&&bricksB s.2.2.2.2.2.2.2.2.2.2.2.2))))))))))))
theorem obind_bif {R:Type} {b x:Bool} {k:Bool->Option R}:(obind (bif b then some x else some false) k)=k (b&&x):=by cases b<;>rfl
theorem validA_ok (s:HS):batten_Valid s=some (setB s):=by
 obtain ⟨nm,dp,lo,hi,len,ls,pi,ar,pu,mo,br,l,bs⟩:=s
 simp only[batten_Valid,batten_Valid_b,isName_ok,btwA_ok,linesA_ok,itemsA_ok,bricksA_ok,obind_bif,obind_some',not_or_self',Bool.and_self,Bool.or_true,cT,bif_false',setB]
 have e:(decide (0<=lo)&&(decide (lo<=hi)&&decide (hi<=1048576)))=(btw lo 0 hi&&btw hi 0 1048576):=by
  unfold btw
  by_cases h1:0<=lo<;>by_cases h2:lo<=hi<;>by_cases h3:hi<=1048576
  all_goals first | (rw[decide_eq_true h1]) | (rw[decide_eq_false h1])
  all_goals first | (rw[decide_eq_true h2]) | (rw[decide_eq_false h2])
  all_goals first | (rw[decide_eq_true h3]) | (rw[decide_eq_false h3])
  all_goals simp
  omega
 have e2:∀R:Bool,(decide (0<=lo)&&(decide (lo<=hi)&&(decide (hi<=1048576)&&R)))=(btw lo 0 hi&&(btw hi 0 1048576&&R)):=fun R=>by
  have:=congrArg (·&&R) e
  simpa only[Bool.and_assoc] using this
 rw[<-e2]
 congr 1
 generalize nameB nm=b1
 generalize btw dp 0 1048576=b2
 generalize decide (0<=lo)=b3
 generalize decide (lo<=hi)=b4
 generalize decide (hi<=1048576)=b5
 generalize btw len 1000 1048576=b6
 generalize decide (Int.tmod len 1000=0)=b7
 generalize linesB ls len=b8
 generalize btw pi 0 1048576=b9
 generalize btw ar 0 1048576=b10
 generalize btw pu 1 2=b11
 generalize btw mo 1 67108864=b12
 generalize btw br 0 67108864=b13
 generalize itemsB l len=b14
 generalize bricksB bs=b15
 cases b1;· rfl
 cases b2;· rfl
 cases b3;· rfl
 cases b4;· rfl
 cases b5;· rfl
 cases b6;· rfl
 cases b7;· rfl
 cases b8;· rfl
 cases b9;· rfl
 cases b10;· rfl
 cases b11;· rfl
 cases b12;· rfl
 cases b13;· rfl
 cases b14;· rfl
 cases b15<;>rfl
theorem validR_ok (s:HS) (hl:s.2.2.2.2.2.2.2.2.2.2.2.1.length<=1000000):ref21_Valid s=some (setB s):=by
 obtain ⟨nm,dp,lo,hi,len,ls,pi,ar,pu,mo,br,l,bs⟩:=s
 simp only at hl
 simp only[ref21_Valid,ref21_Valid_b,refIsName_ok,btwB_ok,itemsR_ok _ _ _ _ _ _ _ _ _ _ _ _ _ hl,bricksR_ok,obind_bif,obind_some',setB,linesB]
 generalize nameB nm=b1
 generalize btw dp 0 1048576=b2
 generalize btw lo 0 hi=b3
 generalize btw hi 0 1048576=b4
 generalize btw len 1000 1048576=b6
 generalize decide (Int.tmod len 1000=0)=b7
 generalize hb:btw (ls.length:Int) 2 10=b8
 generalize btw pi 0 1048576=b9
 generalize btw ar 0 1048576=b10
 generalize btw pu 1 2=b11
 generalize btw mo 1 67108864=b12
 generalize btw br 0 67108864=b13
 cases b1;· rfl
 cases b2;· rfl
 cases b3;· rfl
 cases b4;· rfl
 cases b6;· rfl
 cases b7;· rfl
 cases b8;· rfl
 have h2:2<=ls.length/\ls.length<=10:=by
  unfold btw at hb
  rw[Bool.and_eq_true,decide_eq_true_iff,decide_eq_true_iff] at hb
  omega
 cases b9;· (simp only[Bool.false_and,Bool.and_false];rfl)
 cases b10;· (simp only[Bool.false_and,Bool.and_false];rfl)
 cases b11;· (simp only[Bool.false_and,Bool.and_false];rfl)
 cases b12;· (simp only[Bool.false_and,Bool.and_false];rfl)
 cases b13;· (simp only[Bool.false_and,Bool.and_false];rfl)
 simp only[Bool.not_true,Bool.not_false,Bool.or_true,Bool.and_self,Bool.true_and,cT,cF,not_or_self',or_self_not]
 refine (lpK_up (α:=Int×PUnit) ls.length (by omega) (fun i (_:Unit)=>((i:Int),PUnit.unit)) (fun i s k=>bif lineB ls len i then k s else some false) (fun _=>some (itemsB l len&&bricksB bs)) ?_ ?_ ()).trans ?_
 ·intro again i _ hi
  have hw:IntKind.wrap .i64 ((i:Int)+1)=((i+1:Nat):Int):=by rw[wrap_id (by omega) (by omega)];rfl
  simp only[inB_nat,decide_eq_true hi,decide_eq_true (show (i:Int)<ls.length by omega),cT,Int.toNat_natCast,hw]
  unfold lineB
  by_cases hz:i=0
  ·rw[decide_eq_false (show ¬ (i:Int)>0 by omega),decide_eq_true hz]
   cases btw (ls.getD i 0) 0 len<;>rfl
  ·have hw1:IntKind.wrap .i64 ((i:Int) - 1)=((i - 1:Nat):Int):=by rw[wrap_id (by omega) (by omega)];omega
   rw[decide_eq_true (show (i:Int)>0 by omega),decide_eq_false hz]
   simp only[hw1,inB_nat,decide_eq_true (show i - 1<ls.length by omega),Int.toNat_natCast]
   by_cases hc:ls.getD (i - 1) 0<ls.getD i 0
   ·rw[decide_eq_true hc,decide_eq_false (show ¬ ls.getD i 0<=ls.getD (i - 1) 0 by omega)]
    cases btw (ls.getD i 0) 0 len<;>rfl
   ·rw[decide_eq_false hc,decide_eq_true (show ls.getD i 0<=ls.getD (i - 1) 0 by omega)]
    cases btw (ls.getD i 0) 0 len<;>rfl
 ·intro again _
  simp only[decide_eq_false (show ¬ (ls.length:Int)<ls.length by omega),cF]
  cases itemsB l len<;>cases bricksB bs<;>rfl
 ·rw[upF_all ls.length (fun i k _=>rfl) ls.length 0 (by omega)]
  cases (List.range' 0 ls.length).all (lineB ls len)<;>simp
abbrev Bm:=ByteArray×Int×Int×Int
abbrev Ld:=Int×Int
abbrev bm0:Bm:=({ data:={ toList:=[] } },(0:Int),(0:Int),(0:Int))
def bmAt (l:List Bm) (i:Nat):Bm:=l.getD i bm0
def inL (n:Int):Bool:=decide (0<=n/\n<=1048576)
def inW (n:Int):Bool:=decide (0<=n/\n<=67108864)
noncomputable def beamB (l:List Bm) (i:Nat):Bool:=nameB (bmAt l i).1&&(decide (0<=(bmAt l i).2.1/\(bmAt l i).2.1<=(bmAt l i).2.2.1/\(bmAt l i).2.2.1<=1048576)&&(inW (bmAt l i).2.2.2&&decide (idxI (fun a:Bm=>decide (a.1=(bmAt l i).1)) (l.take i) 0<0)))
noncomputable def validG (l:List Bm):Bool:=decide (l.length<=20)&&(List.range' 0 l.length).all (beamB l)
def loadB (x:Ld):Bool:=inL x.1&&inW x.2
def rightG (at_:List Ld):Bool:=decide (at_.length<=1000)&&at_.all loadB
theorem within_ok (n:Int):grid_within n=some (inL n):=by
 simp only[grid_within,grid_within_b,not_or_self',cT,bif_false',ge_iff_le,inL,Bool.decide_and]
theorem isNameG_ok (s:ByteArray):grid_isName s=some (nameB s):=by
 simp only[grid_isName,grid_isName_b,isName_ok,obind_some']
theorem between_ok (n a b:Int):ref19_between n a b=some (decide (a<=n/\n<=b)):=by
 simp only[ref19_between,ref19_between_b,not_or_self',Bool.and_self,cT,bif_false',ge_iff_le,Bool.decide_and]
theorem index85 {f:(Bm×Unit)->Option Bool} {p:Bm->Bool} {l:List Bm} (hl:l.length<=1000000) (h:∀a,a ∈ l->f (a,())=some (p a)):slices_IndexFunc_130 l f=some (idxI p l 0):=by
 unfold slices_IndexFunc_130 slices_IndexFunc_130_b
 exact index_loop (f:=f) (d:=bm0) hl h
theorem contains41' {f:(Bm×Unit)->Option Bool} {p:Bm->Bool} {l:List Bm} (hl:l.length<=1000000) (h:∀a,a ∈ l->f (a,())=some (p a)):slices_ContainsFunc_107 l f=some (!decide (idxI p l 0<0)):=by
 simp only[slices_ContainsFunc_107,slices_ContainsFunc_107_b,index85 hl h,obind_some']
 congr 1
 rw[Bool.eq_iff_iff]
 simp
theorem gValid_ok (l:List Bm):grid_Valid l=some (validG l):=by
 simp only[grid_Valid,grid_Valid_b,validG]
 by_cases h0:l.length<=20
 ·rw[decide_eq_false (show ¬ ((l.length:Nat):Int)>20 by omega),decide_eq_true h0]
  simp only[cF,Bool.true_and]
  refine (lpK_up (α:=Int×PUnit) l.length (by omega) (fun i (_:Unit)=>((i:Int),PUnit.unit)) (fun i s k=>bif beamB l i then k s else some false) (fun _=>some true) ?_ ?_ ()).trans ?_
  ·intro again i _ hi
   have hw:IntKind.wrap .i64 ((i:Int)+1)=((i+1:Nat):Int):=by rw[wrap_id (by omega) (by omega)];rfl
   have hs:slB (0:Int) (i:Int) l.length=true:=slB_of (by omega) (by omega) (by omega)
   have hc:slices_ContainsFunc_107 (List.drop 0 (List.take i l)) (fun x=>grid_Valid_1 x.1 (bmAt l i))=some (!decide (idxI (fun a:Bm=>decide (a.1=(bmAt l i).1)) (l.take i) 0<0)) :=
    contains41' (l:=List.drop 0 (List.take i l)) (p:=fun a:Bm=>decide (a.1=(bmAt l i).1)) (by rw[List.drop_zero,List.length_take];omega) fun a _=>by simp only[grid_Valid_1,grid_Valid_1_b,str_beq]
   simp only[inB_nat,decide_eq_true hi,decide_eq_true (show (i:Int)<l.length by omega),cT,Int.toNat_natCast,hw,show List.getD l i bm0=bmAt l i from rfl,isNameG_ok,within_ok,obind_some',hs]
   unfold beamB
   generalize bmAt l i=b at *
   obtain ⟨s,fr,tt,mo⟩:=b
   simp only at hc ⊢
   rw[hc]
   generalize decide (idxI (fun a:Bm=>decide (a.1=s)) (l.take i) 0<0)=q
   cases nameB s with
   | false=>rfl
   | true =>
    by_cases g1:0<=fr/\fr<=1048576
    ·by_cases g2:0<=tt/\tt<=1048576
     ·by_cases g3:fr>tt
      ·simp only[inL,decide_eq_true g1,decide_eq_true g2,decide_eq_true g3,decide_eq_false (show ¬ (0<=fr/\fr<=tt/\tt<=1048576) by omega)]
       simp[obind_some']
      ·by_cases g4:mo<0
       ·simp only[inL,inW,decide_eq_true g1,decide_eq_true g2,decide_eq_false g3,decide_eq_true g4,decide_eq_true (show (0<=fr/\fr<=tt/\tt<=1048576) by omega),decide_eq_false (show ¬ (0<=mo/\mo<=67108864) by omega)]
        simp[obind_some']
       ·by_cases g5:mo>67108864
        ·simp only[inL,inW,decide_eq_true g1,decide_eq_true g2,decide_eq_false g3,decide_eq_false g4,decide_eq_true g5,decide_eq_true (show (0<=fr/\fr<=tt/\tt<=1048576) by omega),decide_eq_false (show ¬ (0<=mo/\mo<=67108864) by omega)]
         simp[obind_some']
        ·simp only[inL,inW,decide_eq_true g1,decide_eq_true g2,decide_eq_false g3,decide_eq_false g4,decide_eq_false g5,decide_eq_true (show (0<=fr/\fr<=tt/\tt<=1048576) by omega),decide_eq_true (show (0<=mo/\mo<=67108864) by omega)]
         cases q<;>simp[obind_some']
     ·simp only[inL,decide_eq_true g1,decide_eq_false g2,decide_eq_false (show ¬ (0<=fr/\fr<=tt/\tt<=1048576) by omega)]
      simp[obind_some']
    ·simp only[inL,decide_eq_false g1]
     by_cases g6:0<=fr/\fr<=tt/\tt<=1048576
     ·omega
     ·simp only[decide_eq_false g6]
      simp[obind_some']
  ·intro again _
   simp
  ·exact upF_all l.length (fun i k _=>rfl) l.length 0 (by omega) |>.trans (by cases (List.range' 0 l.length).all (beamB l)<;>rfl)
 ·rw[decide_eq_true (show ((l.length:Nat):Int)>20 by omega),decide_eq_false h0]
  rfl
theorem earlier_loop {p:Bm->Bool} {l:List Bm} {i:Nat} (hl:l.length<=1000000) (hi:i<=l.length) {R:Type} {yes no:Option R} :
  lpK (Int×PUnit) R (fun (again_1:Int×PUnit->Option R) (x_1:Int×PUnit)=>bif decide (x_1.1<(i:Int)) then bif inB x_1.1 (List.length l) then bif p (List.getD l (Int.toNat x_1.1) bm0) then yes else
   again_1 (IntKind.wrap .i64 (x_1.1+(1:Int)),PUnit.unit) else none else no) ((0:Int),PUnit.unit)=bif decide (idxI p (l.take i) 0<0) then no else yes:=by
 refine (lpK_up (α:=Int×PUnit) i (by omega) (fun j (_:Unit)=>((j:Int),PUnit.unit)) (fun j s k=>bif !p (l.getD j bm0) then k s else yes) (fun _=>no) ?_ ?_ ()).trans ?_
 ·intro again j _ hj
  have hw:IntKind.wrap .i64 ((j:Int)+1)=((j+1:Nat):Int):=by rw[wrap_id (by omega) (by omega)];rfl
  simp only[inB_nat,decide_eq_true (show j<l.length by omega),decide_eq_true (show (j:Int)<i by omega),cT,Int.toNat_natCast,hw]
  cases p (l.getD j bm0)<;>rfl
 ·intro again _
  simp only[decide_eq_false (show ¬ (i:Int)<i by omega),cF]
 ·refine (upF_all (p:=fun j=>!p (l.getD j bm0)) (r:=yes) i (fun _ _ _=>rfl) i 0 (by omega)).trans ?_
  congr 1
  have h:=idxI_neg (p:=p) (l:=l.take i) (i:=0) (by omega)
  rw[Bool.eq_iff_iff,decide_eq_true_iff,h,List.all_eq_true]
  constructor
  ·intro h1 a ha
   obtain ⟨j,hj,rfl⟩:=List.getElem_of_mem ha
   rw[List.length_take] at hj
   have:=h1 j (List.mem_range'.2 ⟨j,by omega,by omega⟩)
   rw[getD_nat (show j<l.length by omega)] at this
   rw[List.getElem_take]
   simpa using this
  ·intro h1 j hj
   obtain ⟨k,hk,rfl⟩:=List.mem_range'.1 hj
   have:l.getD (0+1*k) bm0 ∈ l.take i:=by
    rw[getD_nat (by omega)]
    exact List.mem_take_iff_getElem.2 ⟨0+1*k,by omega,rfl⟩
   rw[h1 _ this]
   rfl
theorem gRefValid_ok (l:List Bm):ref19_Valid l=some (validG l):=by
 simp only[ref19_Valid,ref19_Valid_b,validG]
 by_cases h0:l.length<=20
 ·rw[decide_eq_false (show ¬ ((l.length:Nat):Int)>20 by omega),decide_eq_true h0]
  simp only[cF,Bool.true_and]
  refine (lpK_up (α:=Int×PUnit) l.length (by omega) (fun i (_:Unit)=>((i:Int),PUnit.unit)) (fun i s k=>bif beamB l i then k s else some false) (fun _=>some true) ?_ ?_ ()).trans ?_
  ·intro again i _ hi
   have hw:IntKind.wrap .i64 ((i:Int)+1)=((i+1:Nat):Int):=by rw[wrap_id (by omega) (by omega)];rfl
   have he:=fun (no:Option Bool)=>earlier_loop (p:=fun a:Bm=>decide (a.1=(bmAt l i).1)) (l:=l) (i:=i) (by omega) (by omega) (yes:=some false) (no:=no)
   simp only[inB_nat,decide_eq_true hi,decide_eq_true (show (i:Int)<l.length by omega),cT,Int.toNat_natCast,hw,show List.getD l i bm0=bmAt l i from rfl,refIsName_ok,between_ok,obind_some',str_beq]
   rw[he]
   unfold beamB inW
   generalize bmAt l i=b at *
   obtain ⟨s,fr,tt,mo⟩:=b
   simp only
   generalize decide (idxI (fun a:Bm=>decide (a.1=s)) (l.take i) 0<0)=q
   cases nameB s with
   | false=>rfl
   | true =>
    by_cases g1:0<=fr/\fr<=tt
    ·by_cases g2:0<=tt/\tt<=1048576
     ·simp only[decide_eq_true g1,decide_eq_true g2,decide_eq_true (show (0<=fr/\fr<=tt/\tt<=1048576) by omega)]
      cases decide (0<=mo/\mo<=67108864)<;>cases q<;>simp[obind_some']
     ·simp only[decide_eq_true g1,decide_eq_false g2,decide_eq_false (show ¬ (0<=fr/\fr<=tt/\tt<=1048576) by omega)]
      simp[obind_some']
    ·simp only[decide_eq_false g1,decide_eq_false (show ¬ (0<=fr/\fr<=tt/\tt<=1048576) by omega)]
     simp[obind_some']
  ·intro again _
   simp
  ·exact upF_all l.length (fun i k _=>rfl) l.length 0 (by omega) |>.trans (by cases (List.range' 0 l.length).all (beamB l)<;>rfl)
 ·rw[decide_eq_true (show ((l.length:Nat):Int)>20 by omega),decide_eq_false h0]
  rfl
abbrev HH:=ByteArray×Int×List HS×List Bm
abbrev set0:HS:=({ data:={ toList:=[] } },(0:Int),(0:Int),(0:Int),(0:Int),[],(0:Int),(0:Int),(0:Int),(0:Int),(0:Int),[],[])
def shortB (s:ByteArray):Bool:=!decide ((s.size:Int)>60)
def small21B (s:HS):Bool:=shortB s.1&&(!decide ((s.2.2.2.2.2.1.length:Int)>12)&&(!(decide ((s.2.2.2.2.2.2.2.2.2.2.2.1.length:Int)>8)&&decide ((s.2.2.2.2.2.2.2.2.2.2.2.1.length:Int)<=40))&&(!decide ((s.2.2.2.2.2.2.2.2.2.2.2.1.length:Int)>45) &&
 (!decide ((s.2.2.2.2.2.2.2.2.2.2.2.2.length:Int)>10)&&(s.2.2.2.2.2.2.2.2.2.2.2.1.all (fun x=>shortB x.1)&&s.2.2.2.2.2.2.2.2.2.2.2.2.all (fun x=>shortB x.1))))))
theorem chk_loop {α R:Type} {p:α->Bool} {d:α} {l:List α} {yes no:Option R} {F:(Int×PUnit->Option R)->Int×PUnit->Option R} (hl:l.length<=1000000)
  (hb:∀again (i:Nat),i<l.length->F again ((i:Int),PUnit.unit)=bif p (l.getD i d) then again (((i+1:Nat):Int),PUnit.unit) else no) (hf:∀again,F again ((l.length:Int),PUnit.unit)=yes) :
  lpK (Int×PUnit) R F ((0:Int),PUnit.unit)=bif l.all p then yes else no:=by
 refine (lpK_up (α:=Int×PUnit) l.length (by omega) (fun i (_:Unit)=>((i:Int),PUnit.unit)) (fun i s k=>bif p (l.getD i d) then k s else no) (fun _=>yes) ?_ ?_ ()).trans ?_
 ·intro again i _ hi
  exact hb again i hi
 ·intro again _
  exact hf again
 ·rw[upF_all l.length (fun i k _=>rfl) l.length 0 (by omega),all_range]
theorem small21_ok (s:HS):ref21_Small s 8=some (small21B s):=by
 obtain ⟨nm,dp,lo,hi,len,ls,pi,ar,pu,mo,br,l,bs⟩:=s
 simp only[ref21_Small,ref21_Small_b,small21B]
 have h1:shortB nm=!decide ((nm.size:Int)>60):=rfl
 rw[h1]
 generalize decide ((nm.size:Int)>60)=b1
 generalize decide ((ls.length:Int)>12)=b2
 generalize decide ((l.length:Int)>8)=b3
 generalize decide ((l.length:Int)<=40)=b4
 generalize hb5:decide ((l.length:Int)>45)=b5
 generalize hb6:decide ((bs.length:Int)>10)=b6
 cases b1;case true=>rfl
 cases b2;case true=>rfl
 have key:∀b:Bool,b5=false->b6=false->lpK (Int×PUnit) Bool (fun (again:Int×PUnit->Option Bool) (x:Int×PUnit)=>bif decide (x.1<(↑(List.length l):Int)) then bif inB x.1 (List.length l) then bif decide ((↑(ByteArray.size (List.getD l (Int.toNat x.1) itm0).1):Int)>(60:Int)) then some false else again (IntKind.wrap .i64 (x.1+(1:Int)),PUnit.unit) else none else
   lpK (Int×PUnit) Bool (fun (again:Int×PUnit->Option Bool) (x:Int×PUnit)=>bif decide (x.1<(↑(List.length bs):Int)) then bif inB x.1 (List.length bs) then bif decide ((↑(ByteArray.size (List.getD bs (Int.toNat x.1) brk0).1):Int)>(60:Int)) then some false else again (IntKind.wrap .i64 (x.1+(1:Int)),PUnit.unit) else none else some true) ((0:Int),PUnit.unit)) ((0:Int),PUnit.unit)
   = some (l.all (fun x=>shortB x.1)&&bs.all (fun x=>shortB x.1)):=fun _ h5 h6=>by
  subst h5;subst h6
  have g5:¬ (l.length:Int)>45:=of_decide_eq_false hb5
  have g6:¬ (bs.length:Int)>10:=of_decide_eq_false hb6
  refine (chk_loop (p:=fun x:Itm=>shortB x.1) (d:=itm0) (l:=l) (no:=some false) (yes:=some (bs.all fun x=>shortB x.1)) (by omega) ?_ ?_).trans ?_
  ·intro again i hi
   have hw:IntKind.wrap .i64 ((i:Int)+1)=((i+1:Nat):Int):=by rw[wrap_id (by omega) (by omega)];rfl
   simp only[inB_nat,decide_eq_true hi,decide_eq_true (show (i:Int)<l.length by omega),cT,Int.toNat_natCast,hw]
   unfold shortB
   cases decide ((((l.getD i itm0).1.size:Nat):Int)>60)<;>rfl
  ·intro again
   simp only[decide_eq_false (show ¬ (l.length:Int)<l.length by omega),cF]
   refine (chk_loop (p:=fun x:Brk=>shortB x.1) (d:=brk0) (l:=bs) (no:=some false) (yes:=some true) (by omega) ?_ ?_).trans ?_
   ·intro again i hi
    have hw:IntKind.wrap .i64 ((i:Int)+1)=((i+1:Nat):Int):=by rw[wrap_id (by omega) (by omega)];rfl
    simp only[inB_nat,decide_eq_true hi,decide_eq_true (show (i:Int)<bs.length by omega),cT,Int.toNat_natCast,hw]
    unfold shortB
    cases decide ((((bs.getD i brk0).1.size:Nat):Int)>60)<;>rfl
   ·intro again
    simp only[decide_eq_false (show ¬ (bs.length:Int)<bs.length by omega),cF]
   ·cases bs.all (fun x=>shortB x.1)<;>rfl
  ·cases l.all (fun x=>shortB x.1)<;>rfl
 cases b3 with
 | false =>
  cases b5;case true=>rfl
  cases b6;case true=>rfl
  simp only[Bool.not_true,Bool.not_false,Bool.or_true,Bool.or_false,Bool.and_self,Bool.true_and,Bool.false_and,Bool.and_false,cT,cF]
  exact key true rfl rfl
 | true =>
  cases b4;case true=>rfl
  cases b5;case true=>rfl
  cases b6;case true=>rfl
  simp only[Bool.not_true,Bool.not_false,Bool.or_true,Bool.and_self,Bool.true_and,Bool.and_false,cT,cF]
  exact key true rfl rfl
def smallHB (h:HH):Bool:=!decide ((h.2.2.1.length:Int)>6)&&(!decide ((h.2.2.2.length:Int)>16)&&(shortB h.1&&(h.2.2.1.all small21B&&h.2.2.2.all (fun x=>shortB x.1))))
theorem small_len {h:HH} (hs:smallHB h=true):h.2.2.1.length<=6/\h.2.2.2.length<=16/\∀s ∈ h.2.2.1,s.2.2.2.2.2.1.length<=12/\s.2.2.2.2.2.2.2.2.2.2.2.1.length<=45/\s.2.2.2.2.2.2.2.2.2.2.2.2.length<=10:=by
 simp only[smallHB,Bool.and_eq_true,Bool.not_eq_true',decide_eq_false_iff_not,List.all_eq_true] at hs
 obtain ⟨h1,h2,_,h4,_⟩:=hs
 refine ⟨by omega,by omega,fun s hm=>?_⟩
 have:=h4 s hm
 simp only[small21B,Bool.and_eq_true,Bool.not_eq_true',decide_eq_false_iff_not] at this
 obtain ⟨_,g1,_,g2,g3,_⟩:=this
 omega
def findI (h:HH) (n:ByteArray):Int:=idxI (fun s:HS=>decide (s.1=n)) h.2.2.1 0
theorem find_ok (h:HH) (n:ByteArray) (hl:h.2.2.1.length<=1000000):house_find h n=some (findI h n):=by
 simp only[house_find,house_find_b,house_find_1,house_find_1_b,str_beq]
 unfold slices_IndexFunc_72 slices_IndexFunc_72_b
 exact congrArg (fun m:Option Int=>obind m fun t=>some t) (index_loop (f:=fun x:HS×Unit=>some (decide (x.1.1=n))) (p:=fun s:HS=>decide (s.1=n)) (d:=set0) hl (fun a _=>rfl))
theorem findSet_ok (h:HH) (n:ByteArray) (hl:h.2.2.1.length<=1000000):ref30_FindSet h n=some (findI h n):=by
 simp only[ref30_FindSet,ref30_FindSet_b,str_beq]
 exact find_loop (p:=fun s:HS=>decide (s.1=n)) (d:=set0) hl
noncomputable def validHB (h:HH):Bool:=nameB h.1&&(!decide (h.2.1<1)&&(!decide (h.2.1>1048576)&&(!decide ((h.2.2.1.length:Int)>60)&&(validG h.2.2.2&&(List.range' 0 h.2.2.1.length).all fun i=>setB (h.2.2.1.getD i set0)&&(!decide ((h.2.2.1.getD i set0).2.2.2.1>h.2.1)&&decide (findI h (h.2.2.1.getD i set0).1=(i:Int)))))))
theorem hValid_ok (h:HH):house_Valid h=some (validHB h):=by
 obtain ⟨nm,ht,ss,rs⟩:=h
 simp only[house_Valid,house_Valid_b,isName_ok,gValid_ok,validA_ok,obind_bif,obind_some',validHB]
 generalize nameB nm=b1
 generalize decide (ht<1)=b2
 generalize decide (ht>1048576)=b3
 generalize hb4:decide ((ss.length:Int)>60)=b4
 generalize validG rs=b5
 cases b1;· rfl
 cases b2;case true=>rfl
 cases b3;case true=>rfl
 cases b4;case true=>rfl
 cases b5;· rfl
 have g4:¬ (ss.length:Int)>60:=of_decide_eq_false hb4
 have hfind:=fun n=>find_ok (nm,ht,ss,rs) n (by simp only;omega)
 simp only[Bool.not_true,Bool.not_false,Bool.or_true,Bool.and_self,Bool.true_and,cT,cF]
 refine (lpK_up (α:=Int×PUnit) ss.length (by omega) (fun i (_:Unit)=>((i:Int),PUnit.unit)) (fun i s k=>bif setB (ss.getD i set0)&&(!decide ((ss.getD i set0).2.2.2.1>ht)&&decide (findI (nm,ht,ss,rs) (ss.getD i set0).1=(i:Int))) then k s else some false) (fun _=>some true) ?_ ?_ ()).trans ?_
 ·intro again i _ hi
  have hw:IntKind.wrap .i64 ((i:Int)+1)=((i+1:Nat):Int):=by rw[wrap_id (by omega) (by omega)];rfl
  simp only[inB_nat,decide_eq_true hi,decide_eq_true (show (i:Int)<ss.length by omega),cT,Int.toNat_natCast,hw,hfind,show List.getD ss i ({ data:={ toList:=[] } },(0:Int),(0:Int),(0:Int),(0:Int),[],(0:Int),(0:Int),(0:Int),(0:Int),(0:Int),[],[])=ss.getD i set0 from rfl]
  generalize hf:decide (findI (nm,ht,ss,rs) (ss.getD i set0).1=(i:Int))=b6
  cases setB (ss.getD i set0) with
  | false=>rfl
  | true =>
   cases decide ((ss.getD i set0).2.2.2.1>ht) with
   | true=>rfl
   | false =>
    simp only[Bool.not_true,Bool.not_false,Bool.or_true,Bool.true_and,cT,cF,obind_some',hf]
    cases b6<;>rfl
 ·intro again _
  simp only[decide_eq_false (show ¬ (ss.length:Int)<ss.length by omega),cF]
 ·rw[upF_all ss.length (fun i k _=>rfl) ss.length 0 (by omega)]
  cases (List.range' 0 ss.length).all fun i=>setB (ss.getD i set0)&&(!decide ((ss.getD i set0).2.2.2.1>ht)&&decide (findI (nm,ht,ss,rs) (ss.getD i set0).1=(i:Int)))<;>rfl
theorem hRefValid_ok (h:HH) (hL:∀s ∈ h.2.2.1,s.2.2.2.2.2.2.2.2.2.2.2.1.length<=1000000):ref30_Valid h=some (validHB h):=by
 obtain ⟨nm,ht,ss,rs⟩:=h
 simp only at hL
 simp only[ref30_Valid,ref30_Valid_b,refIsName_ok,gRefValid_ok,obind_bif,obind_some',validHB]
 generalize nameB nm=b1
 generalize decide (ht<1)=b2
 generalize decide (ht>1048576)=b3
 generalize hb4:decide ((ss.length:Int)>60)=b4
 generalize validG rs=b5
 cases b1;· rfl
 cases b2;case true=>rfl
 cases b3;case true=>rfl
 cases b4;case true=>rfl
 cases b5;· rfl
 have g4:¬ (ss.length:Int)>60:=of_decide_eq_false hb4
 have hfind:=fun n=>findSet_ok (nm,ht,ss,rs) n (by simp only;omega)
 simp only[Bool.not_true,Bool.not_false,Bool.or_true,Bool.and_self,Bool.true_and,cT,cF]
 refine (lpK_up (α:=Int×PUnit) ss.length (by omega) (fun i (_:Unit)=>((i:Int),PUnit.unit)) (fun i s k=>bif setB (ss.getD i set0)&&(!decide ((ss.getD i set0).2.2.2.1>ht)&&decide (findI (nm,ht,ss,rs) (ss.getD i set0).1=(i:Int))) then k s else some false) (fun _=>some true) ?_ ?_ ()).trans ?_
 ·intro again i _ hi
  have hw:IntKind.wrap .i64 ((i:Int)+1)=((i+1:Nat):Int):=by rw[wrap_id (by omega) (by omega)];rfl
  have hv:ref21_Valid (ss.getD i set0)=some (setB (ss.getD i set0)):=validR_ok _ (hL _ (by rw[getD_nat hi];exact List.getElem_mem _))
  simp only[inB_nat,decide_eq_true hi,decide_eq_true (show (i:Int)<ss.length by omega),cT,Int.toNat_natCast,hw,hfind,show List.getD ss i ({ data:={ toList:=[] } },(0:Int),(0:Int),(0:Int),(0:Int),[],(0:Int),(0:Int),(0:Int),(0:Int),(0:Int),[],[])=ss.getD i set0 from rfl,hv,obind_some']
  generalize hf:decide (findI (nm,ht,ss,rs) (ss.getD i set0).1=(i:Int))=b6
  cases setB (ss.getD i set0) with
  | false=>rfl
  | true =>
   cases decide ((ss.getD i set0).2.2.2.1>ht) with
   | true=>rfl
   | false =>
    simp only[Bool.not_true,Bool.not_false,Bool.or_true,Bool.and_self,Bool.true_and,cT,cF,obind_some',hf]
    cases b6<;>rfl
 ·intro again _
  simp only[decide_eq_false (show ¬ (ss.length:Int)<ss.length by omega),cF]
 ·rw[upF_all ss.length (fun i k _=>rfl) ss.length 0 (by omega)]
  cases (List.range' 0 ss.length).all fun i=>setB (ss.getD i set0)&&(!decide ((ss.getD i set0).2.2.2.1>ht)&&decide (findI (nm,ht,ss,rs) (ss.getD i set0).1=(i:Int)))<;>rfl
theorem upF_app {α R:Type} {f:List α->Option R} {g:Nat->α} {c:Nat->Bool} {r:Option R} {n w:Nat} (hn:n<=1000000) (hw:w<=1000) {b:Nat->List α->(List α->Option R)->Option R}
  (hb:∀i s k,i<n->b i s k=bif c i then r else bif fitB (s.length+1) w then k (s++[g i]) else none):∀(k i:Nat) (s:List α),i+k<=n->s.length<=i->upF b f k i s=bif (List.range' i k).any c then r else f (s++(List.range' i k).map g)
 | 0,i,s,_,_=>by simp[upF]
 | k+1,i,s,h,hs=>by
  simp only[upF,hb i s _ (by omega),List.range'_succ,List.any_cons,List.map_cons]
  cases hc:c i with
  | true=>rfl
  | false =>
   have:(s.length+1)*w<=1000001*1000:=Nat.mul_le_mul (by omega) hw
   rw[fitB_of (by omega),cT,cF,upF_app hn hw hb k (i+1) (s++[g i]) (by omega) (by rw[List.length_append,List.length_singleton];omega),Bool.false_or,List.append_assoc]
   rfl
theorem upF_foldl {α σ R:Type} {d:α} {l:List α} {f:σ->Option R} {g:σ->α->σ} {b:Nat->σ->(σ->Option R)->Option R} (hb:∀i s k,i<l.length->b i s k=k (g s (l.getD i d))) (s:σ):upF b f l.length 0 s=f (l.foldl g s):=by
 rw[upF_chk (q:=fun _=>true) (g:=fun i s=>g s (l.getD i d)) (r:=none) l.length (fun i s k h=>hb i s k h) l.length 0 s (by omega),range_fold (g:=g) (d:=d) l.length 0 s (by omega),List.drop_zero]
 rw[show (List.range' 0 l.length).all (fun _=>true)=true from List.all_eq_true.2 fun _ _=>rfl,cT]
def wPipe (s:HS):Int:=IntKind.wrap .i64 (s.2.2.2.2.2.2.1*IntKind.wrap .i64 (Int.tdiv s.2.2.2.2.1 1000))
def addI (a:Int) (x:Itm):Int:=IntKind.wrap .i64 (a+x.2.2.2.1)
def weightI (s:HS):Int:=s.2.2.2.2.2.2.2.2.2.2.2.1.foldl addI (wPipe s)
theorem pipeA_ok (s:HS):batten_pipe s=some (wPipe s):=by simp only[batten_pipe,batten_pipe_b,wPipe]
theorem weightA_ok (s:HS) (hl:s.2.2.2.2.2.2.2.2.2.2.2.1.length<=1000000):batten_weight s=some (weightI s):=by
 obtain ⟨nm,dp,lo,hi,len,ls,pi,ar,pu,mo,br,l,bs⟩:=s
 simp only at hl
 simp only[batten_weight,batten_weight_b,pipeA_ok,obind_some',weightI]
 generalize wPipe (nm,dp,lo,hi,len,ls,pi,ar,pu,mo,br,l,bs)=a0
 refine (lpK_up (α:=Int×Int×PUnit) l.length (by omega) (fun i (s:Int)=>(s,(i:Int),PUnit.unit)) (fun i s k=>k (addI s (l.getD i itm0))) (fun s=>some s) ?_ ?_ _).trans ?_
 ·intro again i s hi
  have hw:IntKind.wrap .i64 ((i:Int)+1)=((i+1:Nat):Int):=by rw[wrap_id (by omega) (by omega)];rfl
  simp only[inB_nat,decide_eq_true hi,decide_eq_true (show (i:Int)<l.length by omega),cT,Int.toNat_natCast,hw]
  rfl
 ·intro again s
  simp only[decide_eq_false (show ¬ (l.length:Int)<l.length by omega),cF]
 ·exact upF_foldl (g:=addI) (d:=itm0) (fun _ _ _ _=>rfl) _
def addBk (a:Int) (b:Brk):Int:=IntKind.wrap .i64 (a+IntKind.wrap .i64 (b.2.1*b.2.2))
def sumI (l:List Brk):Int:=l.foldl addBk 0
def cntsB (l:List Brk):List Int:=l.map fun b=>b.2.2
theorem cnts_at (l:List Brk) (i:Nat) (h:i<l.length):(cntsB l).getD i 0=(l.getD i brk0).2.2:=by
 rw[getD_nat (by unfold cntsB;rw[List.length_map];exact h),getD_nat h]
 unfold cntsB
 rw[List.getElem_map]
theorem range_map {α β:Type} {d:α} {g:α->β} {l:List α}:(List.range' 0 l.length).map (fun i=>g (l.getD i d))=l.map g:=by
 apply List.ext_getElem
 ·simp
 ·intro i h1 h2
  simp only[List.length_map,List.length_range'] at h1
  rw[List.getElem_map,List.getElem_map,List.getElem_range',Nat.one_mul,Nat.zero_add,getD_nat h1]
theorem arborValid_ok (l:List Brk):arbor_Valid l=some (bricksB l):=by
 simp only[arbor_Valid,arbor_Valid_b,bricksB]
 by_cases h0:l.length<=8
 ·rw[decide_eq_false (show ¬ ((l.length:Nat):Int)>8 by omega),decide_eq_true h0]
  simp only[cF,Bool.true_and]
  refine (lpK_up (α:=Int×Int×PUnit) l.length (by omega) (fun i (s:Int)=>(s,(i:Int),PUnit.unit)) (fun i s k=>bif brickB (l.getD i brk0)&&earlyN (fun a b=>decide (a.1=b.1)) brk0 l i then k (addW s (l.getD i brk0)) else some false) (fun s=>some (decide (s<=60))) ?_ ?_ 0).trans ?_
  ·intro again i s hi
   have hw:IntKind.wrap .i64 ((i:Int)+1)=((i+1:Nat):Int):=by rw[wrap_id (by omega) (by omega)];rfl
   have hs:slB (0:Int) (i:Int) l.length=true:=slB_of (by omega) (by omega) (by omega)
   have hc:slices_ContainsFunc_109 (List.drop 0 (List.take i l)) (fun x=>arbor_Valid_1 x.1 (l.getD i brk0))=some ((l.take i).any fun a=>decide (a.1=(l.getD i brk0).1)) :=
    containsB (l:=List.drop 0 (List.take i l)) (by rw[List.drop_zero,List.length_take];omega) fun a _=>by
     simp only[arbor_Valid_1,arbor_Valid_1_b,str_beq]
   simp only[inB_nat,decide_eq_true hi,decide_eq_true (show (i:Int)<l.length by omega),cT,Int.toNat_natCast,hw,show List.getD l i ({ data:={ toList:=[] } },(0:Int),(0:Int))=l.getD i brk0 from rfl,isName_ok,obind_some',hs,hc]
   unfold earlyN brickB btw addW
   generalize (l.take i).any (fun a=>decide (a.1=(l.getD i brk0).1))=q
   generalize l.getD i brk0=b
   cases nameB b.1 with
   | false=>rfl
   | true =>
    by_cases g1:b.2.1<1
    ·rw[decide_eq_true g1,decide_eq_false (show ¬ 1<=b.2.1 by omega)];rfl
    ·rw[decide_eq_false g1,decide_eq_true (show 1<=b.2.1 by omega)]
     by_cases g2:b.2.1>1048576
     ·rw[decide_eq_true g2,decide_eq_false (show ¬ b.2.1<=1048576 by omega)];rfl
     ·rw[decide_eq_false g2,decide_eq_true (show b.2.1<=1048576 by omega)]
      by_cases g3:b.2.2<0
      ·rw[decide_eq_true g3,decide_eq_false (show ¬ 0<=b.2.2 by omega)];rfl
      ·rw[decide_eq_false g3,decide_eq_true (show 0<=b.2.2 by omega)]
       by_cases g4:b.2.2>60
       ·rw[decide_eq_true g4,decide_eq_false (show ¬ b.2.2<=60 by omega)];rfl
       ·rw[decide_eq_false g4,decide_eq_true (show b.2.2<=60 by omega)]
        cases q<;>rfl
  ·intro again s
   simp only[decide_eq_false (show ¬ (l.length:Int)<l.length by omega),cF]
  ·rw[upF_chk (q:=fun i=>brickB (l.getD i brk0)&&earlyN (fun a b=>decide (a.1=b.1)) brk0 l i) (g:=fun i s=>addW s (l.getD i brk0)) (r:=some false) l.length (fun i s k _=>rfl) l.length 0 0 (by omega),all_and,all_range,early_nodup (f:=fun x:Brk=>x.1),range_fold (g:=addW) (d:=brk0) l.length 0 0 (by omega),List.drop_zero]
   cases l.all brickB<;>cases nodupB (l.map fun x=>x.1)<;>rfl
 ·rw[decide_eq_true (show ((l.length:Nat):Int)>8 by omega),decide_eq_false h0]
  rfl
theorem bricks_all {l:List Brk} (h:bricksB l=true):l.length<=8/\∀b ∈ l,1<=b.2.1/\b.2.1<=1048576/\0<=b.2.2/\b.2.2<=60:=by
 unfold bricksB at h
 rw[Bool.and_eq_true,Bool.and_eq_true,decide_eq_true_iff,List.all_eq_true] at h
 refine ⟨h.1,fun b hb=>?_⟩
 have:=h.2.1 b hb
 unfold brickB btw at this
 simp only[Bool.and_eq_true,decide_eq_true_iff] at this
 omega
theorem arborWeight_ok {l:List Brk} (h:bricksB l=true):arbor_Weight l (cntsB l)=some (sumI l,0,()):=by
 have hc:(cntsB l).length=l.length:=by unfold cntsB;rw[List.length_map]
 obtain ⟨h1,h2⟩:=bricks_all h
 simp only[arbor_Weight,arbor_Weight_b,arborValid_ok,h,obind_some',hc,decide_true,Bool.not_true,cF]
 refine (lpK_up (α:=Int×Int×PUnit) l.length (by omega) (fun i (s:Int)=>(s,(i:Int),PUnit.unit)) (fun i s k=>k (addBk s (l.getD i brk0))) (fun s=>some (s,0,())) ?_ ?_ 0).trans ?_
 ·intro again i s hi
  have hw:IntKind.wrap .i64 ((i:Int)+1)=((i+1:Nat):Int):=by rw[wrap_id (by omega) (by omega)];rfl
  have hm:=h2 (l.getD i brk0) (by rw[getD_nat hi];exact List.getElem_mem _)
  simp only[inB_nat,decide_eq_true hi,decide_eq_true (show (i:Int)<l.length by omega),cT,Int.toNat_natCast,hw,cnts_at l i hi,show List.getD l i ({ data:={ toList:=[] } },(0:Int),(0:Int))=l.getD i brk0 from rfl,decide_eq_false (show ¬ (l.getD i brk0).2.2<0 by omega),decide_eq_false (show ¬ (l.getD i brk0).2.2>(l.getD i brk0).2.2 by omega)]
  simp only[Bool.not_true,Bool.not_false,Bool.or_true,Bool.and_self,cT,cF]
  unfold addBk
  rw[Int.mul_comm]
 ·intro again s
  simp only[decide_eq_false (show ¬ (l.length:Int)<l.length by omega),cF]
 ·exact upF_foldl (g:=addBk) (d:=brk0) (fun _ _ _ _=>rfl) _
def isB (d:Int) (b:Bm):Bool:=decide (b.2.1<=d)&&decide (d<=b.2.2.1)
def cntB (l:List Bm) (d:Int):Nat:=(l.filter (isB d)).length
theorem overG_cons' (d:Int) (b:Bm) (r:List Bm) (i:Int):overG d (b ::r) i=bif isB d b then (i,()) ::overG d r (i+1) else overG d r (i+1):=rfl
theorem overG_len (d:Int):∀(r:List Bm) (i:Int),(overG d r i).length=cntB r d
 | [],_=>rfl
 | b ::r,i=>by
  rw[overG_cons']
  unfold cntB
  rw[List.filter_cons]
  cases isB d b with
  | true=>simp only[cond_true,List.length_cons,if_true];rw[overG_len d r (i+1)];rfl
  | false=>simp only[cond_false,Bool.false_eq_true,if_false];rw[overG_len d r (i+1)];rfl
theorem overL_len (l:List Bm) (d:Int):(overL l d).length=cntB l d:=overG_len d l 0
theorem cntB_le (l:List Bm) (d:Int):cntB l d<=l.length:=List.length_filter_le _ _
theorem overG_walk {σ R:Type} {d:Int} {l:List Bm} {b:Int×Unit->σ->(σ->Option R)->Option R} {c:Nat->Bm->σ->(σ->Option R)->Option R} {f:σ->Option R} (h:∀i s k,i<l.length->b ((i:Int),()) s k=c i (bmAt l i) s k) :
  ∀(n k:Nat) (s:σ),k+n=l.length->listF b f (overG d (l.drop k) k) s=upF (fun i s k=>bif isB d (bmAt l i) then c i (bmAt l i) s k else k s) f n k s
 | 0,k,s,hk=>by
  rw[List.drop_of_length_le (by omega)]
  rfl
 | n+1,k,s,hk=>by
  have hk':k<l.length:=by omega
  rw[List.drop_eq_getElem_cons hk',overG_cons']
  have e:l[k]=bmAt l k:=(getD_nat hk').symm
  rw[e]
  simp only[upF]
  have ih:=fun s'=>overG_walk (d:=d) (f:=f) h n (k+1) s' (by omega)
  cases isB d (bmAt l k) with
  | false=>rw[cond_false,cond_false];exact ih s
  | true =>
   rw[cond_true,cond_true]
   simp only[listF]
   rw[h k s _ hk']
   congr 1
   funext s'
   exact ih s'
theorem overP_of {l:List Bm} (h:l.length<=1000000):overP l=true:=ble_of (by omega)
theorem count_ok {l:List Bm} (h:l.length<=1000000) (d:Int):grid_beams_count l d=some (cntB l d:Int):=by
 simp only[grid_beams_count,grid_beams_count_b]
 rw[overP_of h,cT]
 have hle:=cntB_le l d
 refine (lpK_nat (overL l d) ((0:Int),()) (by rw[overL_len];omega) (fun (_:Int×Unit) (s:Int×PUnit) k=>k (IntKind.wrap .i64 (s.1+1),PUnit.unit)) (fun s=>some s.1) ?_ ?_ ((0:Int),PUnit.unit)).trans ?_
 ·intro again i s hi
  rw[show Nat.ble (Nat.succ i) (overL l d).length=true from ble_of (by omega),cT]
 ·intro again s
  rw[show Nat.ble (Nat.succ (overL l d).length) (overL l d).length=false by rw[Bool.eq_false_iff];intro e;have:=Nat.le_of_ble_eq_true e;omega,cF]
 ·have key:∀(L:List (Int×Unit)) (n:Nat),n+L.length<=1000000->listF (fun (_:Int×Unit) (s:Int×PUnit) (k:Int×PUnit->Option Int)=>k (IntKind.wrap .i64 (s.1+1),PUnit.unit)) (fun s=>some s.1) L ((n:Int),PUnit.unit)=some ((n+L.length:Nat):Int):=by
   intro L
   induction L with
   | nil=>intro n _;rfl
   | cons a L ih =>
    intro n hn
    simp only[List.length_cons] at hn
    simp only[listF]
    rw[wrap_id (by omega) (by omega)]
    have:=ih (n+1) (by omega)
    rw[show ((n+1:Nat):Int)=(n:Int)+1 by omega] at this
    rw[this]
    congr 1
    simp only[List.length_cons]
    omega
  rw[<-overL_len]
  have:=key (overL l d) 0 (by rw[overL_len];omega)
  rw[Nat.zero_add] at this
  exact this
end Go.Proofs.YtlfdhaiigdllcaaGreatDoor

namespace Go.Proofs.YtlfdhaiigdllcaaGreatDoor
namespace Dn
abbrev Fq:=Int×Int
def okF (a:Fq):Prop:=(1<=a.2/\a.2<=1152921504606846976)/\(-1152921504606846976<=a.1/\a.1<=1152921504606846976)/\Nat.gcd a.1.natAbs a.2.natAbs=1
instance (a:Fq):Decidable (okF a):=by unfold okF;infer_instance
def qv (a:Fq):Rat:=mkRat a.1 a.2.toNat
def fitsQ (q:Rat):Prop:=q.num.natAbs<=1152921504606846976/\q.den<=1152921504606846976
instance (q:Rat):Decidable (fitsQ q):=by unfold fitsQ;infer_instance
def prQ (q:Rat):Fq:=(q.num,(q.den:Int))
def fitQ (q:Rat):Fq×Int×Unit:=if fitsQ q then (prQ q,0,()) else ((0,0),5,())
theorem okF_num {a:Fq} (h:okF a):(qv a).num=a.1:=by
 obtain ⟨⟨h1,h2⟩,_,h3⟩:=h
 have h0:a.2.toNat≠0:=by omega
 have h4:Nat.gcd a.2.toNat a.1.natAbs=1:=by rw[Nat.gcd_comm,show a.2.toNat=a.2.natAbs by omega];exact h3
 rw[qv,Rat.num_mkRat,if_neg h0,h4]
 simp
theorem okF_den {a:Fq} (h:okF a):((qv a).den:Int)=a.2:=by
 obtain ⟨⟨h1,h2⟩,_,h3⟩:=h
 have h0:a.2.toNat≠0:=by omega
 have h4:Nat.gcd a.2.toNat a.1.natAbs=1:=by rw[Nat.gcd_comm,show a.2.toNat=a.2.natAbs by omega];exact h3
 rw[qv,Rat.den_mkRat,if_neg h0,h4]
 simp;omega
theorem prQ_qv {a:Fq} (h:okF a):prQ (qv a)=a:=by
 unfold prQ
 rw[okF_num h,okF_den h]
theorem qv_prQ (q:Rat):qv (prQ q)=q:=by
 unfold qv prQ
 simp only[Int.toNat_natCast]
 exact Rat.mkRat_self q
theorem okF_prQ {q:Rat} (h:fitsQ q):okF (prQ q):=by
 obtain ⟨h1,h2⟩:=h
 have:=q.den_pos
 refine ⟨⟨?_,?_⟩,⟨?_,?_⟩,?_⟩
 ·simp only[prQ];omega
 ·simp only[prQ];omega
 ·simp only[prQ];omega
 ·simp only[prQ];omega
 ·simp only[prQ]
  rw[Int.natAbs_natCast]
  exact q.reduced
theorem fitsQ_qv {a:Fq} (h:okF a):fitsQ (qv a):=by
 unfold fitsQ
 have h1:=okF_num h
 have h2:=okF_den h
 obtain ⟨⟨_,_⟩,⟨_,_⟩,_⟩:=h
 rw[h1]
 omega
theorem fitQ_qv {a:Fq} (h:okF a):fitQ (qv a)=(a,0,()):=by
 unfold fitQ
 rw[if_pos (fitsQ_qv h),prQ_qv h]
theorem fitQ_cases (q:Rat):(fitsQ q/\fitQ q=(prQ q,0,()))\/(¬ fitsQ q/\fitQ q=((0,0),5,())):=by
 unfold fitQ
 by_cases h:fitsQ q
 ·exact .inl ⟨h,by rw[if_pos h]⟩
 ·exact .inr ⟨h,by rw[if_neg h]⟩
theorem prQ_int (n:Int):prQ (n:Rat)=(n,1):=rfl
def sgn (s:Bool) (n:Nat):Int:=if s then -(n:Int) else n
theorem mkQ_low {s:Bool} {n d:Nat} (hd:0<d) (hc:Nat.gcd n d=1):(mkRat (sgn s n) d).num=sgn s n/\(mkRat (sgn s n) d).den=d:=by
 have h0:d≠0:=by omega
 have ha:(sgn s n).natAbs=n:=by unfold sgn;split<;>simp
 have hg:Nat.gcd d (sgn s n).natAbs=1:=by rw[ha,Nat.gcd_comm];exact hc
 rw[Rat.num_mkRat,Rat.den_mkRat,if_neg h0,if_neg h0,hg]
 simp
theorem mkQ_div {s:Bool} {n d:Nat} (hd:0<d):mkRat (sgn s n) d=mkRat (sgn s (n / Nat.gcd n d)) (d / Nat.gcd n d)/\0<d / Nat.gcd n d/\Nat.gcd (n / Nat.gcd n d) (d / Nat.gcd n d)=1:=by
 have hg:0<Nat.gcd n d:=Nat.gcd_pos_of_pos_right _ hd
 have h1:n / Nat.gcd n d*Nat.gcd n d=n:=Nat.div_mul_cancel (Nat.gcd_dvd_left n d)
 have h2:d / Nat.gcd n d*Nat.gcd n d=d:=Nat.div_mul_cancel (Nat.gcd_dvd_right n d)
 refine ⟨?_,Nat.div_pos (Nat.le_of_dvd hd (Nat.gcd_dvd_right n d)) hg,Nat.gcd_div_gcd_div_gcd_of_pos_right hd⟩
 have h3:sgn s n=sgn s (n / Nat.gcd n d)*(Nat.gcd n d:Int):=by
  unfold sgn
  split
  ·rw[Int.neg_mul,<-Int.natCast_mul,h1]
  ·rw[<-Int.natCast_mul,h1]
 have h4:mkRat (sgn s n) d=mkRat (sgn s (n / Nat.gcd n d)*(Nat.gcd n d:Int)) (d / Nat.gcd n d*Nat.gcd n d):=by rw[<-h3,h2]
 rw[h4]
 exact Rat.mkRat_mul_right (by omega)
theorem mkQ_congr {s:Bool} {n d m e:Nat} (hd:0<d) (he:0<e) (h:n*e=m*d):mkRat (sgn s n) d=mkRat (sgn s m) e:=by
 rw[Rat.mkRat_eq_iff (by omega) (by omega)]
 unfold sgn
 split
 ·rw[Int.neg_mul,Int.neg_mul,<-Int.natCast_mul,<-Int.natCast_mul,h]
 ·rw[<-Int.natCast_mul,<-Int.natCast_mul,h]
theorem fit_low {s:Bool} {n d:Nat} (hd:0<d) (hc:Nat.gcd n d=1):fitQ (mkRat (sgn s n) d)=if n<=1152921504606846976/\d<=1152921504606846976 then ((sgn s n,(d:Int)),0,()) else ((0,0),5,()):=by
 obtain ⟨h1,h2⟩:=mkQ_low (s:=s) hd hc
 have ha:(sgn s n).natAbs=n:=by unfold sgn;split<;>simp
 unfold fitQ
 have e:fitsQ (mkRat (sgn s n) d)↔n<=1152921504606846976/\d<=1152921504606846976:=by unfold fitsQ;rw[h1,h2,ha]
 have e2:prQ (mkRat (sgn s n) d)=(sgn s n,(d:Int)):=by unfold prQ;rw[h1,h2]
 rw[e2]
 by_cases h:n<=1152921504606846976/\d<=1152921504606846976
 ·rw[if_pos h,if_pos (e.2 h)]
 ·rw[if_neg h,if_neg (fun hh=>h (e.1 hh))]
theorem size_sgn (n:Int):n=sgn (decide (n<0)) n.natAbs:=by
 unfold sgn
 by_cases h:n<0
 ·simp[h];omega
 ·simp[h];omega
theorem sgn_zero (s t:Bool):sgn s 0=sgn t 0:=by unfold sgn;cases s<;>cases t<;>rfl
end Dn
end Go.Proofs.YtlfdhaiigdllcaaGreatDoor

namespace Go.Proofs.YtlfdhaiigdllcaaGreatDoor
open Tryz Dn Dn.Sh
theorem u_wrap {x:Int} (h1:0<=x) (h2:x<18446744073709551616):IntKind.wrap .u64 x=x:=by
 rw[IntKind.wrap_u64];omega
theorem size_ok {x:Int} (h1: -9223372036854775808<=x) (h2:x<9223372036854775808):ratio_size x=some (x.natAbs:Int):=by
 simp only[ratio_size,ratio_size_b]
 by_cases h:x<0
 ·simp only[h,decide_true,cond_true]
  rw[IntKind.wrap_u64,IntKind.wrap_u64]
  congr 1;omega
 ·simp only[h,decide_false,cond_false]
  rw[u_wrap (by omega) (by omega)]
  congr 1;omega
theorem gcd_ok (m n:Nat) (hn:n<18446744073709551616):ratio_gcd (m:Int) (n:Int)=some ((Nat.gcd m n:Nat):Int):=by
 simp only[ratio_gcd,ratio_gcd_b]
 refine lpK_loop (g:=fun x=>some ((Nat.gcd x.1.toNat x.2.1.toNat:Nat):Int)) (I:=fun (x:Int×Int×PUnit)=>0<=x.1/\0<=x.2.1) (μ:=fun (x:Int×Int×PUnit)=>x.2.1.toNat) (x:=((m:Int),(n:Int),PUnit.unit)) ?_ ⟨Int.natCast_nonneg _,Int.natCast_nonneg _⟩ (by simp only;omega)
 rintro ⟨a,b,_⟩ rec ⟨h1,h2⟩ hrec
 simp only at h1 h2 ⊢
 by_cases hb:b=0
 ·subst hb
  simp only[decide_true,Bool.not_true,cond_false,Int.toNat_zero,Nat.gcd_zero_right]
  congr 1;omega
 ·rw[decide_eq_false hb,nzB_of hb,Int.tmod_eq_emod_of_nonneg h1]
  simp only[Bool.not_false,cT]
  have h3:0<=a % b:=Int.emod_nonneg _ hb
  have h4:a % b<b:=Int.emod_lt_of_pos _ (by omega)
  rw[hrec _ ⟨by simp only;omega,by simp only;omega⟩ (by simp only;omega)]
  simp only
  congr 2
  rw[Int.toNat_emod h1 h2,Nat.gcd_comm a.toNat,Nat.gcd_rec b.toNat a.toNat,Nat.gcd_comm]
theorem signed_ok (s:Bool) (n d:Nat) (h1:n<18446744073709551616) (h2:d<18446744073709551616) :
  ratio_signed s (n:Int) (d:Int)=some (if n<=1152921504606846976/\d<=1152921504606846976 then ((sgn s n,(d:Int)),0,()) else ((0,0),5,())):=by
 simp only[ratio_signed,ratio_signed_b,not_or_self',or_self_not,cond_true]
 by_cases hn:n<=1152921504606846976
 ·by_cases hd:d<=1152921504606846976
  ·have e1:decide ((n:Int)>1152921504606846976)=false:=decide_eq_false (by omega)
   have e2:decide ((d:Int)>1152921504606846976)=false:=decide_eq_false (by omega)
   rw[wrap_id (x:=(n:Int)) (by omega) (by omega),wrap_id (x:=(d:Int)) (by omega) (by omega),wrap_id (x:=0 - (n:Int)) (by omega) (by omega)]
   simp only[e1,e2,cond_false,hn,hd,and_self,if_true]
   cases s<;>simp[sgn]
  ·have e2:decide ((d:Int)>1152921504606846976)=true:=decide_eq_true (by omega)
   simp only[e2,bif_true',Bool.or_true,cond_true,hd,and_false,if_false]
 ·have e1:decide ((n:Int)>1152921504606846976)=true:=decide_eq_true (by omega)
  simp only[e1,cond_true,hn,false_and,if_false]
def divQ (n d:Int):Rat:=mkRat (sgn (decide (n<0) !=decide (d<0)) n.natAbs) d.natAbs
theorem tdiv_nat (m n:Nat):Int.tdiv (m:Int) (n:Int)=((m / n:Nat):Int):=by
 rw[Int.tdiv_eq_ediv_of_nonneg (by omega)]
 rfl
theorem Make_ok {n d:Int} (h1: -9223372036854775808<=n) (h2:n<9223372036854775808) (h3: -9223372036854775808<=d) (h4:d<9223372036854775808) :
  ratio_Make n d=some (if d=0 then ((0,0),16,()) else fitQ (divQ n d)):=by
 simp only[ratio_Make,ratio_Make_b,not_or_self',Bool.and_self,cond_true]
 by_cases hd:d=0
 ·simp only[hd,decide_true,cond_true,if_true]
 ·simp only[hd,decide_false,cond_false,if_false]
  rw[size_ok h1 h2,obind_some',size_ok h3 h4,obind_some',gcd_ok _ _ (by omega),obind_some']
  have hg:0<Nat.gcd n.natAbs d.natAbs:=Nat.gcd_pos_of_pos_right _ (by omega)
  have a1:n.natAbs / Nat.gcd n.natAbs d.natAbs<=n.natAbs:=Nat.div_le_self _ _
  have a2:d.natAbs / Nat.gcd n.natAbs d.natAbs<=d.natAbs:=Nat.div_le_self _ _
  have hz:nzB ((Nat.gcd n.natAbs d.natAbs:Nat):Int)=true:=nzB_of (by omega)
  obtain ⟨m1,m2,m3⟩:=mkQ_div (s:=decide (n<0) !=decide (d<0)) (n:=n.natAbs) (d:=d.natAbs) (by omega)
  have hs:n=0->n.natAbs / Nat.gcd n.natAbs d.natAbs=0:=fun h=>by subst h;simp
  rw[hz,cond_true,cond_true,tdiv_nat,tdiv_nat]
  unfold divQ
  rw[m1]
  generalize n.natAbs / Nat.gcd n.natAbs d.natAbs=p at *
  generalize d.natAbs / Nat.gcd n.natAbs d.natAbs=q at *
  rw[u_wrap (by omega) (by omega),u_wrap (by omega) (by omega),signed_ok _ _ _ (by omega) (by omega),obind_some',fit_low m2 m3]
  have hs:sgn (bif !decide (n=0) then !decide (decide (n<0)=decide (d<0)) else false) p=sgn (decide (n<0) !=decide (d<0)) p:=by
   by_cases h0:n=0
   ·rw[hs h0]
    exact sgn_zero _ _
   ·simp only[h0,decide_false,Bool.not_false,cond_true]
    cases decide (n<0)<;>cases decide (d<0)<;>rfl
  rw[hs]
theorem Valid_ok {a:Fq}:ratio_Valid a=some (decide (okF a)):=by
 simp only[ratio_Valid,ratio_Valid_b,not_or_self',Bool.and_self,cond_true,bif_false']
 unfold okF
 by_cases h1:1<=a.2
 ·by_cases h2:a.2<=1152921504606846976
  ·by_cases h3: -1152921504606846976<=a.1
   ·by_cases h4:a.1<=1152921504606846976
    ·have e:IntKind.wrap .u64 a.2=((a.2.natAbs:Nat):Int):=by rw[u_wrap (by omega) (by omega)];omega
     simp only[ge_iff_le,h1,h2,h3,h4,decide_true,Bool.and_self,cond_true]
     rw[size_ok (by omega) (by omega),obind_some',e,gcd_ok _ _ (by omega),obind_some']
     congr 1
     rw[Bool.eq_iff_iff]
     simp only[Bool.true_and,decide_eq_true_eq,true_and]
     generalize Nat.gcd a.1.natAbs a.2.natAbs=g
     omega
    ·simp[obind_some',h4]
   ·simp[obind_some',h3]
  ·simp[obind_some',h2]
 ·simp[obind_some',h1]
theorem land32 {x:Int} (h1:0<=x) (h2:x<18446744073709551616):((Nat.land (Int.toNat (x % Int.ofNat 18446744073709551616)) (Int.toNat ((4294967295:Int) % Int.ofNat 18446744073709551616)):Nat):Int)=x % 4294967296:=by
 have e1:x % Int.ofNat 18446744073709551616=x:=Int.emod_eq_of_lt h1 h2
 have e2:Int.toNat ((4294967295:Int) % Int.ofNat 18446744073709551616)=2 ^ 32 - 1:=by decide
 rw[e1,e2]
 have:Nat.land x.toNat (2 ^ 32 - 1)=x.toNat % 2 ^ 32:=Nat.and_two_pow_sub_one_eq_mod x.toNat 32
 rw[this]
 omega
def hl (n:Nat):Int×Int:=(((n / 18446744073709551616:Nat):Int),((n % 18446744073709551616:Nat):Int))
theorem mulW {x y:Int} (x0:0<=x) (x1:x<18446744073709551616) (y0:0<=y) (y1:y<18446744073709551616):bits_Mul64 x y=some (x*y / 18446744073709551616,x*y % 18446744073709551616,()):=by
 have p32:(2:Int) ^ (32:Nat)=4294967296:=by decide
 simp only[bits_Mul64,bits_Mul64_b,p32,show decide ((0:Int)<=32)=true from rfl,cond_true]
 obtain ⟨a,b,ha,hb,hx⟩:∃a b,a=x / 4294967296/\b=x % 4294967296/\x=a*4294967296+b:=⟨_,_,rfl,rfl,by omega⟩
 obtain ⟨c,d,hc,hd,hy⟩:∃c d,c=y / 4294967296/\d=y % 4294967296/\y=c*4294967296+d:=⟨_,_,rfl,rfl,by omega⟩
 have fd:∀n:Int,Int.fdiv n 4294967296=n / 4294967296:=fun n=>Int.fdiv_eq_ediv_of_nonneg n (by omega)
 rw[land32 x0 x1,land32 y0 y1,<-hb,<-hd]
 simp only[fd,<-ha,<-hc]
 have a0:0<=a/\a<=4294967295:=by omega
 have b0:0<=b/\b<=4294967295:=by omega
 have c0:0<=c/\c<=4294967295:=by omega
 have d0:0<=d/\d<=4294967295:=by omega
 have mb:∀{m n:Int},0<=m/\m<=4294967295->0<=n/\n<=4294967295->0<=m*n/\m*n<=18446744065119617025:=fun {m n} hm hn=>⟨Int.mul_nonneg hm.1 hn.1,Int.le_trans (Int.mul_le_mul hm.2 hn.2 hn.1 (by omega)) (by decide)⟩
 have e1:=mb a0 c0
 have e2:=mb a0 d0
 have e3:=mb b0 c0
 have e4:=mb b0 d0
 have hxy:x*y=a*c*18446744073709551616+(a*d+b*c)*4294967296+b*d:=by rw[hx,hy];grind
 rw[IntKind.wrap_u64 (x*y)]
 rw[hxy]
 rw[u_wrap (x:=b) (by omega) (by omega),u_wrap (x:=d) (by omega) (by omega)]
 rw[u_wrap (x:=b*d) (by omega) (by omega),u_wrap (x:=a*d) (by omega) (by omega),u_wrap (x:=b*c) (by omega) (by omega),u_wrap (x:=a*c) (by omega) (by omega)]
 generalize b*d=bd at *
 generalize a*d=ad at *
 generalize b*c=bc at *
 generalize a*c=ac at *
 rw[u_wrap (x:=ad+bd / 4294967296) (by omega) (by omega)]
 generalize ht:ad+bd / 4294967296=t
 rw[land32 (by omega) (by omega)]
 rw[u_wrap (x:=t % 4294967296) (by omega) (by omega)]
 rw[u_wrap (x:=t % 4294967296+bc) (by omega) (by omega),u_wrap (x:=ac+t / 4294967296) (by omega) (by omega)]
 rw[u_wrap (x:=ac+t / 4294967296+(t % 4294967296+bc) / 4294967296) (by omega) (by omega)]
 congr 1
 ext
 ·simp only;omega
 ·rfl
theorem product_ok {m n:Nat} (hm:m<18446744073709551616) (hn:n<18446744073709551616):ratio_product (m:Int) (n:Int)=some (hl (m*n)):=by
 simp only[ratio_product,ratio_product_b]
 rw[mulW (by omega) (by omega) (by omega) (by omega),obind_some',<-Int.natCast_mul]
 rfl
theorem hl_small {n:Nat} (h:n<18446744073709551616):hl n=(0,(n:Int)):=by
 unfold hl
 rw[Nat.div_eq_of_lt h,Nat.mod_eq_of_lt h]
 rfl
theorem hl_big {n:Nat} (h:¬ n<18446744073709551616):(hl n).1>0:=by
 unfold hl
 simp only
 omega
theorem fdiv_of {n d:Int} (h:0<=d):Int.fdiv n d=n / d:=Int.fdiv_eq_ediv_of_nonneg n h
theorem zero_hl {n:Nat} (_:n<340282366920938463463374607431768211456):(decide ((hl n).1=0)&&(decide ((hl n).2=0)&&true))=decide (n=0):=by
 rw[Bool.and_true,Bool.eq_iff_iff,Bool.and_eq_true,decide_eq_true_iff,decide_eq_true_iff,decide_eq_true_iff]
 simp only[hl]
 omega
theorem divMod_of {t b q r:Nat} (hr:r<b) (h:t=q*b+r):t / b=q/\t % b=r:=by
 subst h
 constructor
 ·rw[Nat.mul_comm,Nat.mul_add_div (by omega),Nat.div_eq_of_lt hr,Nat.add_zero]
 ·rw[Nat.mul_comm,Nat.mul_add_mod,Nat.mod_eq_of_lt hr]
theorem rLess_ok {a b:Nat}:ratio_less (hl a) (hl b)=some (decide (a<b)):=by
 simp only[ratio_less,ratio_less_b]
 have e:decide (a<b)=(bif decide ((hl a).1<(hl b).1) then true else bif decide ((hl a).1=(hl b).1) then decide ((hl a).2<(hl b).2) else false):=by
  by_cases c1:(hl a).1<(hl b).1
  ·simp only[c1,decide_true,cond_true]
   simp only[hl] at c1
   exact decide_eq_true (by omega)
  ·by_cases c2:(hl a).1=(hl b).1
   ·rw[decide_eq_false c1,decide_eq_true c2,cond_true,cond_false]
    have e2:a<b↔(hl a).2<(hl b).2:=by
     simp only[hl] at c1 c2 ⊢
     omega
    rw[Bool.eq_iff_iff,decide_eq_true_iff,decide_eq_true_iff]
    exact e2
   ·simp only[c1,c2,decide_false,cond_false]
    simp only[hl] at c1 c2
    exact decide_eq_false (by omega)
 rw[e]
 cases decide ((hl a).1<(hl b).1)<;>cases decide ((hl a).1=(hl b).1)<;>rfl
theorem addC_hl {m n:Nat}:addC (hl m).2 (hl n).2 0=(((m % 18446744073709551616+n % 18446744073709551616) / 18446744073709551616:Nat):Int):=by
 simp only[addC,hl,Int.toNat_natCast,Int.toNat_zero,Nat.add_zero]
 rfl
theorem subC_hl {m n:Nat}:subC (hl m).2 (hl n).2 0=(((if m % 18446744073709551616<n % 18446744073709551616 then 1 else 0:Nat):Nat):Int):=by
 simp only[subC,hl,Int.toNat_natCast,Int.toNat_zero,Nat.add_zero]
 cases h:Nat.blt (m % 18446744073709551616) (n % 18446744073709551616) with
 | true =>
  have h':m % 18446744073709551616<n % 18446744073709551616:=by simpa [Nat.blt_eq] using h
  rw[if_pos h'];rfl
 | false =>
  have h':¬ m % 18446744073709551616<n % 18446744073709551616:=by
   intro h2
   have:Nat.blt (m % 18446744073709551616) (n % 18446744073709551616)=true:=by simpa [Nat.blt_eq] using h2
   rw[this] at h;cases h
  rw[if_neg h'];rfl
theorem rPlus_ok {m n:Nat} (h:m+n<340282366920938463463374607431768211456):ratio_plus (hl m) (hl n)=some (hl (m+n)):=by
 simp only[ratio_plus,ratio_plus_b,addC_hl]
 have c1:decide ((0:Int)<=(0:Int))=true:=rfl
 have c2:decide ((0:Int)<=(1:Int))=true:=rfl
 rw[c1,c2,decide_eq_true (show (0:Int)<=(((m % 18446744073709551616+n % 18446744073709551616) / 18446744073709551616:Nat):Int) by omega),decide_eq_true (show (((m % 18446744073709551616+n % 18446744073709551616) / 18446744073709551616:Nat):Int)<=1 by omega)]
 simp only[Bool.and_self,cT,Option.some.injEq,addO,hl,Int.toNat_natCast,Int.toNat_zero,Nat.add_zero,Prod.mk.injEq]
 constructor
 ·show ((_:Nat):Int)=((_:Nat):Int)
  omega
 ·show ((_:Nat):Int)=((_:Nat):Int)
  omega
theorem rMinus_ok {m n:Nat} (h:n<=m) (hm:m<340282366920938463463374607431768211456):ratio_minus (hl m) (hl n)=some (hl (m - n)):=by
 simp only[ratio_minus,ratio_minus_b,subC_hl]
 have c1:decide ((0:Int)<=(0:Int))=true:=rfl
 have c2:decide ((0:Int)<=(1:Int))=true:=rfl
 have hb:(if m % 18446744073709551616<n % 18446744073709551616 then 1 else 0:Nat)<=1:=by split<;>omega
 have hc:(if m % 18446744073709551616<n % 18446744073709551616 then 1 else 0:Nat)=1/\m % 18446744073709551616<n % 18446744073709551616\/(if m % 18446744073709551616<n % 18446744073709551616 then 1 else 0:Nat)=0/\¬ m % 18446744073709551616<n % 18446744073709551616:=by split<;>simp_all
 generalize (if m % 18446744073709551616<n % 18446744073709551616 then 1 else 0:Nat)=c at *
 rw[c1,c2,decide_eq_true (show (0:Int)<=(c:Int) by omega),decide_eq_true (show (c:Int)<=1 by omega)]
 simp only[Bool.and_self,cT,Option.some.injEq,subO,hl,Int.toNat_natCast,Int.toNat_zero,Nat.sub_zero,Prod.mk.injEq]
 constructor
 ·show ((_:Nat):Int)=((_:Nat):Int)
  omega
 ·show ((_:Nat):Int)=((_:Nat):Int)
  omega
noncomputable def lenT (T:ByteArray) (a b:Int):Option Int :=
 bif decide (a>=(256:Int)) then bif decide ((0:Int)<=(8:Int)) then bif inB (IntKind.wrap .u8 (Int.fdiv a ((2:Int) ^ (8:Nat)))) (256:Nat) then
  some (IntKind.wrap .i64 (IntKind.wrap .i64 (b+(8:Int))+IntKind.wrap .i64 (byteAt T (Int.toNat (IntKind.wrap .u8 (Int.fdiv a ((2:Int) ^ (8:Nat)))))))) else none else none
 else bif inB (IntKind.wrap .u8 a) (256:Nat) then some (IntKind.wrap .i64 (b+IntKind.wrap .i64 (byteAt T (Int.toNat (IntKind.wrap .u8 a))))) else none
noncomputable def lenU (T:ByteArray) (a b:Int):Option Int:=bif decide (a>=(65536:Int)) then bif decide ((0:Int)<=(16:Int)) then lenT T (Int.fdiv a ((2:Int) ^ (16:Nat))) (IntKind.wrap .i64 (b+(16:Int))) else none else lenT T a b
theorem len_table:∃T:ByteArray,(∀i,i<256->0<=byteAt T i/\byteAt T i<=8/\(0<i->i<2 ^ (byteAt T i).toNat/\2 ^ (byteAt T i).toNat<=2*i)) /\
  ∀x,bits_Len64 x=bif decide (x>=(4294967296:Int)) then bif decide ((0:Int)<=(32:Int)) then lenU T (Int.fdiv x ((2:Int) ^ (32:Nat))) 32 else none else lenU T x 0 :=
 ⟨_,by decide +kernel,fun _=>rfl⟩
def isLen (n L:Nat):Prop:=n<2 ^ L/\2 ^ L<=2*n
theorem isLen_shift {n k L:Nat} (h:isLen (n / 2 ^ k) L):isLen n (L+k):=by
 obtain ⟨h1,h2⟩:=h
 have hk:0<2 ^ k:=Nat.two_pow_pos k
 unfold isLen
 rw[Nat.pow_add]
 constructor
 ·exact (Nat.div_lt_iff_lt_mul hk).1 h1
 ·have h3:n / 2 ^ k*2 ^ k<=n:=Nat.div_mul_le_self n _
  have h4:=Nat.mul_le_mul_right (2 ^ k) h2
  rw[Nat.mul_assoc] at h4
  omega
theorem u8_wrap {x:Int} (h1:0<=x) (h2:x<256):IntKind.wrap .u8 x=x:=by
 rw[IntKind.wrap_u8];omega
theorem Len64_ok {n:Nat} (h0:0<n) (h1:n<18446744073709551616):∃L:Nat,bits_Len64 (n:Int)=some (L:Int)/\isLen n L/\L<=64:=by
 obtain ⟨T,hT,hx⟩:=len_table
 have tab:∀i:Nat,0<i->i<256->∃L:Nat,byteAt T i=L/\L<=8/\isLen i L:=fun i h2 h3=>by
  obtain ⟨a1,a2,a3⟩:=hT i h3
  exact ⟨(byteAt T i).toNat,by omega,by omega,a3 h2⟩
 have p8:(2:Int) ^ (8:Nat)=256:=by decide
 have p16:(2:Int) ^ (16:Nat)=65536:=by decide
 have p32:(2:Int) ^ (32:Nat)=4294967296:=by decide
 have stepT:∀a b:Nat,0<a->a<65536->b<=48->∃L:Nat,lenT T (a:Int) (b:Int)=some ((L+b:Nat):Int)/\isLen a L/\L<=16:=fun a b ha hb hb2=>by
  unfold lenT
  by_cases h:a<256
  ·obtain ⟨L,e1,e2,e3⟩:=tab a ha h
   rw[decide_eq_false (show ¬ (a:Int)>=256 by omega),cond_false,u8_wrap (by omega) (by omega),inB_of (by omega) (by omega),cond_true,Int.toNat_natCast,e1,wrap_id (x:=(L:Int)) (by omega) (by omega),wrap_id (by omega) (by omega)]
   exact ⟨L,by congr 1;omega,e3,by omega⟩
  ·obtain ⟨L,e1,e2,e3⟩:=tab (a / 256) (by omega) (by omega)
   rw[decide_eq_true (show (a:Int)>=256 by omega),cond_true,show decide ((0:Int)<=8)=true from rfl,cond_true,p8,fdiv_of (by omega),u8_wrap (by omega) (by omega),inB_of (by omega) (by omega),cond_true,show ((a:Int) / 256).toNat=a / 256 by omega,e1,wrap_id (x:=(L:Int)) (by omega) (by omega),wrap_id (x:=(b:Int)+8) (by omega) (by omega),wrap_id (by omega) (by omega)]
   exact ⟨L+8,by congr 1;omega,isLen_shift (k:=8) e3,by omega⟩
 have stepU:∀a b:Nat,0<a->a<4294967296->b<=32->∃L:Nat,lenU T (a:Int) (b:Int)=some ((L+b:Nat):Int)/\isLen a L/\L<=32:=fun a b ha hb hb2=>by
  unfold lenU
  by_cases h:a<65536
  ·obtain ⟨L,e1,e2,e3⟩:=stepT a b ha h (by omega)
   rw[decide_eq_false (show ¬ (a:Int)>=65536 by omega),cond_false,e1]
   exact ⟨L,rfl,e2,by omega⟩
  ·obtain ⟨L,e1,e2,e3⟩:=stepT (a / 65536) (b+16) (by omega) (by omega) (by omega)
   rw[decide_eq_true (show (a:Int)>=65536 by omega),cond_true,show decide ((0:Int)<=16)=true from rfl,cond_true,p16,fdiv_of (by omega),wrap_id (by omega) (by omega),show (a:Int) / 65536=((a / 65536:Nat):Int) by omega,show (b:Int)+16=((b+16:Nat):Int) by omega,e1]
   exact ⟨L+16,by congr 1;omega,isLen_shift (k:=16) e2,by omega⟩
 rw[hx]
 by_cases h:n<4294967296
 ·obtain ⟨L,e1,e2,e3⟩:=stepU n 0 h0 h (by omega)
  rw[decide_eq_false (show ¬ (n:Int)>=4294967296 by omega),cond_false]
  exact ⟨L,e1,e2,by omega⟩
 ·obtain ⟨L,e1,e2,e3⟩:=stepU (n / 4294967296) 32 (by omega) (by omega) (by omega)
  rw[decide_eq_true (show (n:Int)>=4294967296 by omega),cond_true,show decide ((0:Int)<=32)=true from rfl,cond_true,p32,fdiv_of (by omega),show (n:Int) / 4294967296=((n / 4294967296:Nat):Int) by omega]
  exact ⟨L+32,e1,isLen_shift (k:=32) e2,by omega⟩
end Go.Proofs.YtlfdhaiigdllcaaGreatDoor
