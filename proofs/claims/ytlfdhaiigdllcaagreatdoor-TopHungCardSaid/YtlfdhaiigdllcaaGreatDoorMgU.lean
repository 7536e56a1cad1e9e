/- toph: loadin.of: the world in which it works; its loop of the states that are reached, round by round (made by a program). -/
import Derived.Deep.CutRange
import Derived.WideMake
import Derived.Deep.OwnRows
import Derived.BigRegion
import Derived.Deep.Light
import Derived.StillTailTactics
import Derived.Test.YtlfdhaiigdllcaaGreatDoorMgT

namespace Go.Proofs.YtlfdhaiigdllcaaGreatDoor
open Tryz Go.RowKit Go.Shelf
set_option maxHeartbeats 1000000
set_option maxRecDepth 100000
abbrev SetV (ar ab : Addr) (Ai : Option Addr) (cr ci cb : Nat) : Value := .agg #[.string ⟨#[115]⟩, .int .i64 0, .int .i64 0, .int .i64 8000, .int .i64 1000, .slice (some ar) 2 cr, .int .i64 60, .int .i64 40, .int .i64 1, .int .i64 100, .int .i64 10, .slice Ai 0 ci, .slice (some ab) 1 cb]
abbrev SetO (ar ab : Addr) (Ai : Option Addr) (cr ci cb : Nat) : Obj := .cells #[.string ⟨#[115]⟩, .int .i64 0, .int .i64 0, .int .i64 8000, .int .i64 1000, .slice (some ar) 2 cr, .int .i64 60, .int .i64 40, .int .i64 1, .int .i64 100, .int .i64 10, .slice Ai 0 ci, .slice (some ab) 1 cb] 35 (0, 0)
theorem set_cells {w : World} {b : Nat} {ar ab : Addr} {Ai : Option Addr} {cr ci cb : Nat} (h : w.heap[b]? = some (SetO ar ab Ai cr ci cb)) : w.cell? ⟨b, 0, none⟩ = some (.string ⟨#[115]⟩) ∧ w.cell? ⟨b, 1, none⟩ = some (.int .i64 0) ∧ w.cell? ⟨b, 2, none⟩ = some (.int .i64 0) ∧ w.cell? ⟨b, 3, none⟩ = some (.int .i64 8000) ∧ w.cell? ⟨b, 4, none⟩ = some (.int .i64 1000) ∧ w.cell? ⟨b, 5, none⟩ = some (.slice (some ar) 2 cr) ∧ w.cell? ⟨b, 6, none⟩ = some (.int .i64 60) ∧ w.cell? ⟨b, 7, none⟩ = some (.int .i64 40) ∧ w.cell? ⟨b, 8, none⟩ = some (.int .i64 1) ∧ w.cell? ⟨b, 9, none⟩ = some (.int .i64 100) ∧ w.cell? ⟨b, 10, none⟩ = some (.int .i64 10) ∧ w.cell? ⟨b, 11, none⟩ = some (.slice Ai 0 ci) ∧ w.cell? ⟨b, 12, none⟩ = some (.slice (some ab) 1 cb) := by
  refine ⟨?_, ?_, ?_, ?_, ?_, ?_, ?_, ?_, ?_, ?_, ?_, ?_, ?_⟩ <;> (rw [Lib.cell_of_heap h]; rfl)
/-- The world in which 'of' works: the set's block, the variable, the lattice and its three rows. -/
structure Lt (w0 wx : World) (S0 : Obj) (hB rB gB L V : Nat) (hl rl gl : Array Value) : Prop where
  below : Below w0.heap.size w0 wx
  size : w0.heap.size < wx.heap.size
  set : wx.heap[w0.heap.size]? = some S0
  v : wx.heap[V]? = some (.cells #[.pointer (some ⟨L, 0, none⟩)] 93 (0, 0))
  l : wx.heap[L]? = some (.cells #[.int .i64 2, .slice (some ⟨hB, 0, none⟩) 4 4, .slice (some ⟨rB, 0, none⟩) 4 4, .slice (some ⟨gB, 0, none⟩) 4 4] 98 (0, 0))
  h : wx.heap[hB]? = some (.cells hl 4 (0, 0))
  r : wx.heap[rB]? = some (.cells rl 4 (0, 0))
  g : wx.heap[gB]? = some (.cells gl 4 (0, 0))
  d : w0.heap.size < hB ∧ w0.heap.size < rB ∧ w0.heap.size < gB ∧ w0.heap.size < L ∧ w0.heap.size < V ∧ hB ≠ rB ∧ hB ≠ gB ∧ rB ≠ gB ∧ L ≠ hB ∧ L ≠ rB ∧ L ≠ gB ∧ V ≠ hB ∧ V ≠ rB ∧ V ≠ gB ∧ V ≠ L
abbrev F4 : Array Value := #[.bool false, .bool false, .bool false, .bool false]
theorem info4 : (prog.info? 4).map (fun i => (i.zero, i.size, i.bytes)) = some (some (.bool false), 1, 1) := by kernel_rfl
theorem infoI : (prog.info? 3).map (fun i => (i.zero, i.size, i.bytes)) = some (some (.int .i64 0), 1, 8) := by kernel_rfl
section
variable (u : World) (o0 o1 o2 o3 o4 : Obj)
abbrev W5 : World := (((((u.alloc o0).alloc o1).alloc o2).alloc o3).alloc o4).drew
theorem a5_4 : (W5 u o0 o1 o2 o3 o4).heap[u.heap.size + 1 + 1 + 1 + 1]? = some o4 := by
  have := al1 ((((u.alloc o0).alloc o1).alloc o2).alloc o3) o4
  simp only [sz1] at this
  exact this
theorem a5_3 : (W5 u o0 o1 o2 o3 o4).heap[u.heap.size + 1 + 1 + 1]? = some o3 := by
  have := al1 (((u.alloc o0).alloc o1).alloc o2) o3
  simp only [sz1] at this
  exact (Below.heap_alloc _ _ _ (by simp only [sz1]; omega)).trans this
theorem a5_2 : (W5 u o0 o1 o2 o3 o4).heap[u.heap.size + 1 + 1]? = some o2 := by
  have := al1 ((u.alloc o0).alloc o1) o2
  simp only [sz1] at this
  exact (Below.heap_alloc _ _ _ (by simp only [sz1]; omega)).trans ((Below.heap_alloc _ _ _ (by simp only [sz1]; omega)).trans this)
theorem a5_1 : (W5 u o0 o1 o2 o3 o4).heap[u.heap.size + 1]? = some o1 := by
  have := al1 (u.alloc o0) o1
  simp only [sz1] at this
  exact (Below.heap_alloc _ _ _ (by simp only [sz1]; omega)).trans ((Below.heap_alloc _ _ _ (by simp only [sz1]; omega)).trans ((Below.heap_alloc _ _ _ (by simp only [sz1]; omega)).trans this))
theorem a5_0 : (W5 u o0 o1 o2 o3 o4).heap[u.heap.size]? = some o0 := by
  have := al1 u o0
  exact (Below.heap_alloc _ _ _ (by simp only [sz1]; omega)).trans ((Below.heap_alloc _ _ _ (by simp only [sz1]; omega)).trans ((Below.heap_alloc _ _ _ (by simp only [sz1]; omega)).trans ((Below.heap_alloc _ _ _ (by simp only [sz1]; omega)).trans this)))
theorem b5 {w : World} (h : Below w.heap.size w u) (hs : w.heap.size + 1 ≤ u.heap.size) : Below w.heap.size w (W5 u o0 o1 o2 o3 o4) :=
  (((((h.alloc (by omega) o0).alloc (by simp only [sz1]; omega) o1).alloc (by simp only [sz1]; omega) o2).alloc (by simp only [sz1]; omega) o3).alloc (by simp only [sz1]; omega) o4).drew
theorem s5 : (W5 u o0 o1 o2 o3 o4).heap.size = u.heap.size + 5 := by
  show ((((((u.alloc o0).alloc o1).alloc o2).alloc o3).alloc o4)).heap.size = _
  simp only [sz1]
theorem kept5 {k : Nat} (h : k < u.heap.size) : (W5 u o0 o1 o2 o3 o4).heap[k]? = u.heap[k]? :=
  (Below.heap_alloc _ _ _ (by simp only [sz1]; omega)).trans ((Below.heap_alloc _ _ _ (by simp only [sz1]; omega)).trans ((Below.heap_alloc _ _ _ (by simp only [sz1]; omega)).trans ((Below.heap_alloc _ _ _ (by simp only [sz1]; omega)).trans (Below.heap_alloc _ _ _ h))))
end
theorem mk96 (W : World) : (Instr.makeSlice 96 (.int .i64 4) (.int .i64 4)).run prog W = .ok (.slice (some ⟨W.heap.size, 0, none⟩) 4 4) (W.alloc (.cells F4 4)) := by
  have h := run_make_row' (P := prog) 96 4 (.bool false) 1 Tryz.underlying96 info4 rfl .i64 .i64 4 (by decide) (by decide) W
  have e : madeCells #[Value.bool false] 4 = F4 := by kernel_rfl
  rw [e] at h
  exact h
theorem mk31 (W : World) : (Instr.makeSlice 31 (.int .i64 4) (.int .i64 4)).run prog W = .ok (.slice (some ⟨W.heap.size, 0, none⟩) 4 4) (W.alloc (.cells #[.int .i64 0, .int .i64 0, .int .i64 0, .int .i64 0] 3)) := by
  have h := run_make_row' (P := prog) 31 3 (.int .i64 0) 8 Tryz.underlying31 infoI rfl .i64 .i64 4 (by decide) (by decide) W
  have e : madeCells #[Value.int .i64 0] 4 = #[.int .i64 0, .int .i64 0, .int .i64 0, .int .i64 0] := by kernel_rfl
  rw [e] at h
  exact h
theorem blk_set {w : World} {b : Nat} {cs : Array Value} {t : TypeId} (h : w.heap[b]? = some (.cells cs t (0, 0))) (j : Nat) (v : Value) : (w.setCell ⟨b, j, none⟩ v).heap[b]? = some (.cells (cs.setIfInBounds j v) t (0, 0)) := by
  have hlt := lt_of_block h
  have h' : w.heap[b] = .cells cs t (0, 0) := by simpa [Array.getElem?_eq_getElem hlt] using h
  show (w.heap.modify b _)[b]? = _
  rw [Array.getElem?_eq_getElem (by simpa using hlt), Array.getElem_modify_self, h']
  rfl
theorem sz_set (w : World) (a : Addr) (v : Value) : (w.setCell a v).heap.size = w.heap.size := by simp [World.setCell]
/-- .. and the row of the imbalances. -/
structure Ls (w0 wx : World) (S0 : Obj) (hB rB gB L V I : Nat) (hl rl gl il : Array Value) : Prop extends Lt w0 wx S0 hB rB gB L V hl rl gl where
  i : wx.heap[I]? = some (.cells il 3 (0, 0))
  di : w0.heap.size < I ∧ I ≠ hB ∧ I ≠ rB ∧ I ≠ gB ∧ I ≠ L ∧ I ≠ V
section
variable {w0 wx wy : World} {S0 : Obj} {hB rB gB L V I : Nat} {hl rl gl il : Array Value}
theorem Lt.kept (h : Lt w0 wx S0 hB rB gB L V hl rl gl) (hb : Below w0.heap.size w0 wy) (hs : wx.heap.size ≤ wy.heap.size) (hk : ∀ k, k < wx.heap.size → wy.heap[k]? = wx.heap[k]?) : Lt w0 wy S0 hB rB gB L V hl rl gl :=
  ⟨hb, Nat.lt_of_lt_of_le h.size hs, (hk _ h.size).trans h.set, (hk _ (lt_of_block h.v)).trans h.v, (hk _ (lt_of_block h.l)).trans h.l, (hk _ (lt_of_block h.h)).trans h.h, (hk _ (lt_of_block h.r)).trans h.r, (hk _ (lt_of_block h.g)).trans h.g, h.d⟩
theorem Ls.kept (h : Ls w0 wx S0 hB rB gB L V I hl rl gl il) (hb : Below wx.heap.size wx wy) : Ls w0 wy S0 hB rB gB L V I hl rl gl il :=
  ⟨h.toLt.kept (h.below.trans (hb.mono (Nat.le_of_lt h.size))) hb.size hb.block, (hb.block _ (lt_of_block h.i)).trans h.i, h.di⟩
theorem Ls.al (h : Ls w0 wx S0 hB rB gB L V I hl rl gl il) (o : Obj) : Ls w0 (wx.alloc o) S0 hB rB gB L V I hl rl gl il := h.kept (bel1 _ _)
theorem Ls.draw (h : Ls w0 wx S0 hB rB gB L V I hl rl gl il) (m : Nat) : Ls w0 (wx.drewN m) S0 hB rB gB L V I hl rl gl il := ⟨⟨h.below.trans ⟨rfl, rfl, rfl, Nat.le_refl _, fun _ _ => rfl⟩, h.size, h.set, h.v, h.l, h.h, h.r, h.g, h.d⟩, h.i, h.di⟩
theorem Ls.drew (h : Ls w0 wx S0 hB rB gB L V I hl rl gl il) : Ls w0 wx.drew S0 hB rB gB L V I hl rl gl il := ⟨⟨h.below.drew, h.size, h.set, h.v, h.l, h.h, h.r, h.g, h.d⟩, h.i, h.di⟩
theorem Ls.setI (h : Ls w0 wx S0 hB rB gB L V I hl rl gl il) (j : Nat) (v : Value) : Ls w0 (wx.setCell ⟨I, j, none⟩ v) S0 hB rB gB L V I hl rl gl (il.setIfInBounds j v) := by
  obtain ⟨e1, e2, e3, e4, e5, e6⟩ := h.di
  have hk : ∀ k, k ≠ I → (wx.setCell ⟨I, j, none⟩ v).heap[k]? = wx.heap[k]? := fun k hk => Below.heap_setCell _ _ _ _ hk
  exact ⟨⟨h.below.setCell (p := ⟨I, j, none⟩) (by show w0.heap.size ≤ I; omega) v, by rw [sz_set]; exact h.size, (hk _ (by omega)).trans h.set, (hk _ e6.symm).trans h.v, (hk _ e5.symm).trans h.l, (hk _ e2.symm).trans h.h, (hk _ e3.symm).trans h.r, (hk _ e4.symm).trans h.g, h.d⟩, blk_set h.i j v, h.di⟩
theorem Ls.setH (h : Ls w0 wx S0 hB rB gB L V I hl rl gl il) (j : Nat) (v : Value) : Ls w0 (wx.setCell ⟨hB, j, none⟩ v) S0 hB rB gB L V I (hl.setIfInBounds j v) rl gl il := by
  obtain ⟨e1, e2, e3, e4, e5, e6⟩ := h.di
  obtain ⟨d1, d2, d3, d4, d5, d6, d7, d8, d9, d10, d11, d12, d13, d14, d15⟩ := h.d
  have hk : ∀ k, k ≠ hB → (wx.setCell ⟨hB, j, none⟩ v).heap[k]? = wx.heap[k]? := fun k hk => Below.heap_setCell _ _ _ _ hk
  exact ⟨⟨h.below.setCell (p := ⟨hB, j, none⟩) (by show w0.heap.size ≤ hB; omega) v, by rw [sz_set]; exact h.size, (hk _ (by omega)).trans h.set, (hk _ d12).trans h.v, (hk _ d9).trans h.l, blk_set h.h j v, (hk _ d6.symm).trans h.r, (hk _ d7.symm).trans h.g, h.d⟩, (hk _ e2).trans h.i, h.di⟩
theorem Ls.setR (h : Ls w0 wx S0 hB rB gB L V I hl rl gl il) (j : Nat) (v : Value) : Ls w0 (wx.setCell ⟨rB, j, none⟩ v) S0 hB rB gB L V I hl (rl.setIfInBounds j v) gl il := by
  obtain ⟨e1, e2, e3, e4, e5, e6⟩ := h.di
  obtain ⟨d1, d2, d3, d4, d5, d6, d7, d8, d9, d10, d11, d12, d13, d14, d15⟩ := h.d
  have hk : ∀ k, k ≠ rB → (wx.setCell ⟨rB, j, none⟩ v).heap[k]? = wx.heap[k]? := fun k hk => Below.heap_setCell _ _ _ _ hk
  exact ⟨⟨h.below.setCell (p := ⟨rB, j, none⟩) (by show w0.heap.size ≤ rB; omega) v, by rw [sz_set]; exact h.size, (hk _ (by omega)).trans h.set, (hk _ d13).trans h.v, (hk _ d10).trans h.l, (hk _ d6).trans h.h, blk_set h.r j v, (hk _ d8.symm).trans h.g, h.d⟩, (hk _ e3).trans h.i, h.di⟩
theorem Ls.setG (h : Ls w0 wx S0 hB rB gB L V I hl rl gl il) (j : Nat) (v : Value) : Ls w0 (wx.setCell ⟨gB, j, none⟩ v) S0 hB rB gB L V I hl rl (gl.setIfInBounds j v) il := by
  obtain ⟨e1, e2, e3, e4, e5, e6⟩ := h.di
  obtain ⟨d1, d2, d3, d4, d5, d6, d7, d8, d9, d10, d11, d12, d13, d14, d15⟩ := h.d
  have hk : ∀ k, k ≠ gB → (wx.setCell ⟨gB, j, none⟩ v).heap[k]? = wx.heap[k]? := fun k hk => Below.heap_setCell _ _ _ _ hk
  exact ⟨⟨h.below.setCell (p := ⟨gB, j, none⟩) (by show w0.heap.size ≤ gB; omega) v, by rw [sz_set]; exact h.size, (hk _ (by omega)).trans h.set, (hk _ d14).trans h.v, (hk _ d11).trans h.l, (hk _ d7).trans h.h, (hk _ d8).trans h.r, blk_set h.g j v, h.d⟩, (hk _ e4).trans h.i, h.di⟩
theorem Lt.begin (h : Lt w0 wx S0 hB rB gB L V hl rl gl) (il : Array Value) : Ls w0 (wx.alloc (.cells il 3)) S0 hB rB gB L V wx.heap.size hl rl gl il :=
  have h1 := lt_of_block h.h
  have h2 := lt_of_block h.r
  have h3 := lt_of_block h.g
  have h4 := lt_of_block h.l
  have h5 := lt_of_block h.v
  have h6 := h.size
  ⟨h.kept (h.below.alloc (by omega) _) (by rw [sz1]; omega) (fun k hk => Below.heap_alloc _ _ _ hk), al1 _ _, by omega, by omega, by omega, by omega, by omega, by omega⟩
end
theorem row4 {w : World} {b : Nat} {x0 x1 x2 x3 : Value} {t : TypeId} (h : w.heap[b]? = some (.cells #[x0, x1, x2, x3] t (0, 0))) :
    w.cell? ⟨b, 0, none⟩ = some x0 ∧ w.cell? ⟨b, 1, none⟩ = some x1 ∧ w.cell? ⟨b, 2, none⟩ = some x2 ∧ w.cell? ⟨b, 3, none⟩ = some x3 ∧ w.frozen? ⟨b, 0, none⟩ = false ∧ w.frozen? ⟨b, 1, none⟩ = false ∧ w.frozen? ⟨b, 2, none⟩ = false ∧ w.frozen? ⟨b, 3, none⟩ = false := by
  refine ⟨?_, ?_, ?_, ?_, Lib.frozen_of_heap h 0, Lib.frozen_of_heap h 1, Lib.frozen_of_heap h 2, Lib.frozen_of_heap h 3⟩ <;> (rw [Lib.cell_of_heap h]; rfl)
theorem wm10 : IntKind.i64.wrap (-10) = -10 := by kernel_rfl
theorem wm24 : IntKind.i64.wrap 24 = 24 := by kernel_rfl
theorem wm8 : IntKind.i64.wrap 8 = 8 := by kernel_rfl
/-- Where the ways meet, behind a name. -/
def MetK (J K : Act → World → Prop) : Prop := ∀ a w, Met J a w → K a w
theorem cset {w : World} {a b : Addr} {v x : Value} (h : w.cell? b = some x) (hne : b.block ≠ a.block) : (w.setCell a v).cell? b = some x := (World.cell?_of_block (Below.heap_setCell _ _ _ _ hne)).trans h
/-- A fact behind a name, out of the walk's way. -/
structure Hid (p : Prop) : Prop where
  out : p
/-- The body of the loop in a block. -/
def loopIn (n : Nat) : Code → Option Code
  | .block m (.loop c) => if m = n then some c else loopIn n c
  | .block _ c => loopIn n c
  | .seq a b => match loopIn n a with
    | some c => some c
    | none => loopIn n b
  | .loop c => loopIn n c
  | .scope c => loopIn n c
  | .cond _ a b => match loopIn n a with
    | some c => some c
    | none => loopIn n b
  | _ => none
noncomputable def body47 (n : Nat) : Code := ((Tryz.f47.body.bind (loopIn n)).getD .skip)
theorem np {P : Program} {s : Code} {Kr : Act → World → Prop} {Q : Exit → Act → World → Prop} {a : Act} {w : World} (h : Code.wp P s (Exit.then Kr (NoPanic Q)) a w) : Code.wp P s (Exit.then Kr Q) a w :=
  wp_mono h fun e a w => by cases e <;> first | exact id | (intro h; exact NoPanic.imp (Q := Q) _ a w h)
theorem reach0 {Q0 : Exit → Act → World → Prop} {Kr : Act → World → Prop} {w x : World} {S0 : Obj} {hB rB gB L V I : Nat} (u0 u1 u2 u3 u4 u5 u6 u7 u8 u10 u11 u12 u13 u14 u15 u16 u17 u18 u19 u20 u21 u22 u23 u24 u25 u26 u27 u28 u29 u30 u31 u32 u33 u34 u35 u36 u37 u38 u39 u40 u41 u42 u43 u44 u45 u46 u47 u48 u49 u50 u51 u52 u53 u54 u55 u56 u57 u58 u59 u60 u61 u62 u63 u64 u65 u66 u67 u68 u69 u70 u71 u72 u73 u74 u75 u76 u77 u78 u79 u80 u81 u82 u83 u84 u85 u86 u87 u88 u89 u90 u91 u92 u93 u94 u95 u96 u97 u98 u99 u100 u101 u102 u103 u104 u105 u106 u107 u108 u109 u110 u111 u112 u113 u114 u115 u116 u117 u118 u119 u120 u121 u122 u123 u124 u127 u128 u129 u130 u131 u132 u133 u134 u135 u136 u137 u138 u139 u140 u141 u142 u143 u144 u145 u146 u147 u148 u149 u150 u151 u152 u153 u154 u155 u156 u157 u158 u159 u160 u161 u162 u163 u164 u165 u166 u167 u168 u169 u170 u171 u172 u173 u174 u175 u176 u177 u178 u179 u180 u181 u182 u183 u184 u185 : Value) (hk : Hid (∀ (v18 v127 v128 v129 v130 v131 v132 v133 v134 v135 v136 v137 v138 v139 v140 v141 v142 v143 v144 v145 v146 v147 v148 v149 v150 v151 v152 : Value) (x' : World), Ls w x' S0 hB rB gB L V I #[.bool true, .bool true, .bool false, .bool true] #[.bool true, .bool false, .bool false, .bool false] #[.bool false, .bool false, .bool false, .bool false] #[.int .i64 6, .int .i64 (-10), .int .i64 24, .int .i64 8] → Kr ⟨List.toArray (u0 :: u1 :: u2 :: u3 :: u4 :: u5 :: u6 :: u7 :: u8 :: .pointer (some ⟨V, 0, none⟩) :: u10 :: u11 :: u12 :: u13 :: u14 :: u15 :: u16 :: u17 :: v18 :: u19 :: u20 :: u21 :: u22 :: u23 :: u24 :: u25 :: u26 :: u27 :: u28 :: u29 :: u30 :: u31 :: u32 :: u33 :: u34 :: u35 :: u36 :: u37 :: u38 :: u39 :: u40 :: u41 :: u42 :: u43 :: u44 :: u45 :: u46 :: u47 :: u48 :: u49 :: u50 :: u51 :: u52 :: u53 :: u54 :: u55 :: u56 :: u57 :: u58 :: u59 :: u60 :: u61 :: u62 :: u63 :: u64 :: u65 :: u66 :: u67 :: u68 :: u69 :: u70 :: u71 :: u72 :: u73 :: u74 :: u75 :: u76 :: u77 :: u78 :: u79 :: u80 :: u81 :: u82 :: u83 :: u84 :: u85 :: u86 :: u87 :: u88 :: u89 :: u90 :: u91 :: u92 :: u93 :: u94 :: u95 :: u96 :: u97 :: u98 :: u99 :: u100 :: u101 :: u102 :: u103 :: u104 :: u105 :: u106 :: u107 :: u108 :: u109 :: u110 :: u111 :: u112 :: u113 :: u114 :: u115 :: u116 :: u117 :: u118 :: u119 :: u120 :: u121 :: u122 :: u123 :: u124 :: .int .i64 4 :: .int .i64 1 :: v127 :: v128 :: v129 :: v130 :: v131 :: v132 :: v133 :: v134 :: v135 :: v136 :: v137 :: v138 :: v139 :: v140 :: v141 :: v142 :: v143 :: v144 :: v145 :: v146 :: v147 :: v148 :: v149 :: v150 :: v151 :: v152 :: u153 :: u154 :: u155 :: u156 :: u157 :: u158 :: u159 :: u160 :: u161 :: u162 :: u163 :: u164 :: u165 :: u166 :: u167 :: u168 :: u169 :: u170 :: u171 :: u172 :: u173 :: u174 :: u175 :: u176 :: u177 :: u178 :: u179 :: u180 :: u181 :: u182 :: u183 :: u184 :: u185 :: []), []⟩ x')) (hA : Ls w x S0 hB rB gB L V I #[.bool true, .bool true, .bool false, .bool true] #[.bool false, .bool false, .bool false, .bool false] #[.bool false, .bool false, .bool false, .bool false] #[.int .i64 6, .int .i64 (-10), .int .i64 24, .int .i64 8]) :
    Code.wp prog (body47 7) (Exit.then Kr (NoPanic Q0)) ⟨List.toArray (u0 :: u1 :: u2 :: u3 :: u4 :: u5 :: u6 :: u7 :: u8 :: .pointer (some ⟨V, 0, none⟩) :: u10 :: u11 :: u12 :: u13 :: u14 :: u15 :: u16 :: u17 :: u18 :: u19 :: u20 :: u21 :: u22 :: u23 :: u24 :: u25 :: u26 :: u27 :: u28 :: u29 :: u30 :: u31 :: u32 :: u33 :: u34 :: u35 :: u36 :: u37 :: u38 :: u39 :: u40 :: u41 :: u42 :: u43 :: u44 :: u45 :: u46 :: u47 :: u48 :: u49 :: u50 :: u51 :: u52 :: u53 :: u54 :: u55 :: u56 :: u57 :: u58 :: u59 :: u60 :: u61 :: u62 :: u63 :: u64 :: u65 :: u66 :: u67 :: u68 :: u69 :: u70 :: u71 :: u72 :: u73 :: u74 :: u75 :: u76 :: u77 :: u78 :: u79 :: u80 :: u81 :: u82 :: u83 :: u84 :: u85 :: u86 :: u87 :: u88 :: u89 :: u90 :: u91 :: u92 :: u93 :: u94 :: u95 :: u96 :: u97 :: u98 :: u99 :: u100 :: u101 :: u102 :: u103 :: u104 :: u105 :: u106 :: u107 :: u108 :: u109 :: u110 :: u111 :: u112 :: u113 :: u114 :: u115 :: u116 :: u117 :: u118 :: u119 :: u120 :: u121 :: u122 :: u123 :: u124 :: .int .i64 4 :: .int .i64 0 :: u127 :: u128 :: u129 :: u130 :: u131 :: u132 :: u133 :: u134 :: u135 :: u136 :: u137 :: u138 :: u139 :: u140 :: u141 :: u142 :: u143 :: u144 :: u145 :: u146 :: u147 :: u148 :: u149 :: u150 :: u151 :: u152 :: u153 :: u154 :: u155 :: u156 :: u157 :: u158 :: u159 :: u160 :: u161 :: u162 :: u163 :: u164 :: u165 :: u166 :: u167 :: u168 :: u169 :: u170 :: u171 :: u172 :: u173 :: u174 :: u175 :: u176 :: u177 :: u178 :: u179 :: u180 :: u181 :: u182 :: u183 :: u184 :: u185 :: []), []⟩ x := by
  conv => arg 2; whnf
  have hS := hA.al (.cells #[.int .i64 0] 3)
  have n0 := (row4 hS.l).1
  have n1 := (row4 hS.l).2.1
  have n2 := (row4 hS.l).2.2.1
  have m0 := (row4 hS.h).1
  have r0 := (row4 hS.r).1
  have e0 := (row4 hS.r).2.2.2.2.1
  have v0 := cell_of_one hS.v
  have t0 : (x.alloc (.cells #[.int .i64 0] 3)).cell? ⟨x.heap.size, 0, none⟩ = some (.int .i64 0) := cell_of_one (al1 _ _)
  have ne3 : x.heap.size ≠ rB := by have := lt_of_block hA.r; omega
  have ne0 : V ≠ rB := hA.d.2.2.2.2.2.2.2.2.2.2.2.2.1
  have ne1 : L ≠ rB := hA.d.2.2.2.2.2.2.2.2.2.1
  have ne2 : hB ≠ rB := hA.d.2.2.2.2.2.1
  clear hA
  go_wp2_with fail
  generalize (x.alloc (.cells #[.int .i64 0] 3)) = y at hS n0 n1 n2 m0 r0 e0 v0 t0  ⊢
  generalize x.heap.size = Sn at t0 ne3 ⊢
  go_big_region
  have hE := (hS.setR 0 (.bool true)).drew
  go_wp2_with fail
  apply hk.out
  exact hE
theorem reach1 {Q0 : Exit → Act → World → Prop} {Kr : Act → World → Prop} {w x : World} {S0 : Obj} {hB rB gB L V I : Nat} (u0 u1 u2 u3 u4 u5 u6 u7 u8 u10 u11 u12 u13 u14 u15 u16 u17 u18 u19 u20 u21 u22 u23 u24 u25 u26 u27 u28 u29 u30 u31 u32 u33 u34 u35 u36 u37 u38 u39 u40 u41 u42 u43 u44 u45 u46 u47 u48 u49 u50 u51 u52 u53 u54 u55 u56 u57 u58 u59 u60 u61 u62 u63 u64 u65 u66 u67 u68 u69 u70 u71 u72 u73 u74 u75 u76 u77 u78 u79 u80 u81 u82 u83 u84 u85 u86 u87 u88 u89 u90 u91 u92 u93 u94 u95 u96 u97 u98 u99 u100 u101 u102 u103 u104 u105 u106 u107 u108 u109 u110 u111 u112 u113 u114 u115 u116 u117 u118 u119 u120 u121 u122 u123 u124 u127 u128 u129 u130 u131 u132 u133 u134 u135 u136 u137 u138 u139 u140 u141 u142 u143 u144 u145 u146 u147 u148 u149 u150 u151 u152 u153 u154 u155 u156 u157 u158 u159 u160 u161 u162 u163 u164 u165 u166 u167 u168 u169 u170 u171 u172 u173 u174 u175 u176 u177 u178 u179 u180 u181 u182 u183 u184 u185 : Value) (hk : Hid (∀ (v18 v127 v128 v129 v130 v131 v132 v133 v134 v135 v136 v137 v138 v139 v140 v141 v142 v143 v144 v145 v146 v147 v148 v149 v150 v151 v152 : Value) (x' : World), Ls w x' S0 hB rB gB L V I #[.bool true, .bool true, .bool false, .bool true] #[.bool true, .bool true, .bool false, .bool false] #[.bool false, .bool false, .bool false, .bool false] #[.int .i64 6, .int .i64 (-10), .int .i64 24, .int .i64 8] → Kr ⟨List.toArray (u0 :: u1 :: u2 :: u3 :: u4 :: u5 :: u6 :: u7 :: u8 :: .pointer (some ⟨V, 0, none⟩) :: u10 :: u11 :: u12 :: u13 :: u14 :: u15 :: u16 :: u17 :: v18 :: u19 :: u20 :: u21 :: u22 :: u23 :: u24 :: u25 :: u26 :: u27 :: u28 :: u29 :: u30 :: u31 :: u32 :: u33 :: u34 :: u35 :: u36 :: u37 :: u38 :: u39 :: u40 :: u41 :: u42 :: u43 :: u44 :: u45 :: u46 :: u47 :: u48 :: u49 :: u50 :: u51 :: u52 :: u53 :: u54 :: u55 :: u56 :: u57 :: u58 :: u59 :: u60 :: u61 :: u62 :: u63 :: u64 :: u65 :: u66 :: u67 :: u68 :: u69 :: u70 :: u71 :: u72 :: u73 :: u74 :: u75 :: u76 :: u77 :: u78 :: u79 :: u80 :: u81 :: u82 :: u83 :: u84 :: u85 :: u86 :: u87 :: u88 :: u89 :: u90 :: u91 :: u92 :: u93 :: u94 :: u95 :: u96 :: u97 :: u98 :: u99 :: u100 :: u101 :: u102 :: u103 :: u104 :: u105 :: u106 :: u107 :: u108 :: u109 :: u110 :: u111 :: u112 :: u113 :: u114 :: u115 :: u116 :: u117 :: u118 :: u119 :: u120 :: u121 :: u122 :: u123 :: u124 :: .int .i64 4 :: .int .i64 2 :: v127 :: v128 :: v129 :: v130 :: v131 :: v132 :: v133 :: v134 :: v135 :: v136 :: v137 :: v138 :: v139 :: v140 :: v141 :: v142 :: v143 :: v144 :: v145 :: v146 :: v147 :: v148 :: v149 :: v150 :: v151 :: v152 :: u153 :: u154 :: u155 :: u156 :: u157 :: u158 :: u159 :: u160 :: u161 :: u162 :: u163 :: u164 :: u165 :: u166 :: u167 :: u168 :: u169 :: u170 :: u171 :: u172 :: u173 :: u174 :: u175 :: u176 :: u177 :: u178 :: u179 :: u180 :: u181 :: u182 :: u183 :: u184 :: u185 :: []), []⟩ x')) (hA : Ls w x S0 hB rB gB L V I #[.bool true, .bool true, .bool false, .bool true] #[.bool true, .bool false, .bool false, .bool false] #[.bool false, .bool false, .bool false, .bool false] #[.int .i64 6, .int .i64 (-10), .int .i64 24, .int .i64 8]) :
    Code.wp prog (body47 7) (Exit.then Kr (NoPanic Q0)) ⟨List.toArray (u0 :: u1 :: u2 :: u3 :: u4 :: u5 :: u6 :: u7 :: u8 :: .pointer (some ⟨V, 0, none⟩) :: u10 :: u11 :: u12 :: u13 :: u14 :: u15 :: u16 :: u17 :: u18 :: u19 :: u20 :: u21 :: u22 :: u23 :: u24 :: u25 :: u26 :: u27 :: u28 :: u29 :: u30 :: u31 :: u32 :: u33 :: u34 :: u35 :: u36 :: u37 :: u38 :: u39 :: u40 :: u41 :: u42 :: u43 :: u44 :: u45 :: u46 :: u47 :: u48 :: u49 :: u50 :: u51 :: u52 :: u53 :: u54 :: u55 :: u56 :: u57 :: u58 :: u59 :: u60 :: u61 :: u62 :: u63 :: u64 :: u65 :: u66 :: u67 :: u68 :: u69 :: u70 :: u71 :: u72 :: u73 :: u74 :: u75 :: u76 :: u77 :: u78 :: u79 :: u80 :: u81 :: u82 :: u83 :: u84 :: u85 :: u86 :: u87 :: u88 :: u89 :: u90 :: u91 :: u92 :: u93 :: u94 :: u95 :: u96 :: u97 :: u98 :: u99 :: u100 :: u101 :: u102 :: u103 :: u104 :: u105 :: u106 :: u107 :: u108 :: u109 :: u110 :: u111 :: u112 :: u113 :: u114 :: u115 :: u116 :: u117 :: u118 :: u119 :: u120 :: u121 :: u122 :: u123 :: u124 :: .int .i64 4 :: .int .i64 1 :: u127 :: u128 :: u129 :: u130 :: u131 :: u132 :: u133 :: u134 :: u135 :: u136 :: u137 :: u138 :: u139 :: u140 :: u141 :: u142 :: u143 :: u144 :: u145 :: u146 :: u147 :: u148 :: u149 :: u150 :: u151 :: u152 :: u153 :: u154 :: u155 :: u156 :: u157 :: u158 :: u159 :: u160 :: u161 :: u162 :: u163 :: u164 :: u165 :: u166 :: u167 :: u168 :: u169 :: u170 :: u171 :: u172 :: u173 :: u174 :: u175 :: u176 :: u177 :: u178 :: u179 :: u180 :: u181 :: u182 :: u183 :: u184 :: u185 :: []), []⟩ x := by
  conv => arg 2; whnf
  have hS := hA.al (.cells #[.int .i64 1] 3)
  have n0 := (row4 hS.l).1
  have n1 := (row4 hS.l).2.1
  have n2 := (row4 hS.l).2.2.1
  have m0 := (row4 hS.h).2.1
  have r0 := (row4 hS.r).2.1
  have e0 := (row4 hS.r).2.2.2.2.2.1
  have v0 := cell_of_one hS.v
  have t0 : (x.alloc (.cells #[.int .i64 1] 3)).cell? ⟨x.heap.size, 0, none⟩ = some (.int .i64 1) := cell_of_one (al1 _ _)
  have y0 := (row4 hS.r).1
  have ne3 : x.heap.size ≠ rB := by have := lt_of_block hA.r; omega
  have ne0 : V ≠ rB := hA.d.2.2.2.2.2.2.2.2.2.2.2.2.1
  have ne1 : L ≠ rB := hA.d.2.2.2.2.2.2.2.2.2.1
  have ne2 : hB ≠ rB := hA.d.2.2.2.2.2.1
  clear hA
  go_wp2_with fail
  generalize (x.alloc (.cells #[.int .i64 1] 3)) = y at hS n0 n1 n2 m0 r0 e0 v0 t0 y0 ⊢
  generalize x.heap.size = Sn at t0 ne3 ⊢
  go_region_held3 (fun w' => w'.cell? ⟨V, 0, none⟩ = some (.pointer (some ⟨L, 0, none⟩)) ∧ w'.cell? ⟨L, 1, none⟩ = some (.slice (some ⟨hB, 0, none⟩) 4 4) ∧ w'.cell? ⟨L, 2, none⟩ = some (.slice (some ⟨rB, 0, none⟩) 4 4) ∧ w'.cell? ⟨hB, 1, none⟩ = some (.bool true) ∧ w'.cell? ⟨Sn, 0, none⟩ = some (.int .i64 1))
    (first | exact ⟨v0, n1, n2, m0, t0⟩ | exact ⟨b0, b1, b2, b3, b4⟩ | exact ⟨cset b0 ne0, cset b1 ne1, cset b2 ne1, cset b3 ne2, cset b4 ne3⟩)
    (first | (go_at_call 49; refine (any87_1 (w := y.drew) n0 t0 v0 n2 y0).mono ?_; rintro e w1 ⟨rfl, hw1⟩; obtain ⟨hL1, b0, b1, b2, b3, b4, b5, b6⟩ : Ls w w1 S0 hB rB gB L V I #[.bool true, .bool true, .bool false, .bool true] #[.bool true, .bool false, .bool false, .bool false] #[.bool false, .bool false, .bool false, .bool false] #[.int .i64 6, .int .i64 (-10), .int .i64 24, .int .i64 8] ∧ w1.cell? ⟨V, 0, none⟩ = some (.pointer (some ⟨L, 0, none⟩)) ∧ w1.cell? ⟨L, 1, none⟩ = some (.slice (some ⟨hB, 0, none⟩) 4 4) ∧ w1.cell? ⟨L, 2, none⟩ = some (.slice (some ⟨rB, 0, none⟩) 4 4) ∧ w1.cell? ⟨hB, 1, none⟩ = some (.bool true) ∧ w1.cell? ⟨Sn, 0, none⟩ = some (.int .i64 1) ∧ w1.cell? ⟨rB, 1, none⟩ = some (.bool false) ∧ w1.frozen? ⟨rB, 1, none⟩ = false := by (obtain ⟨m, rfl⟩ := hw1; exact ⟨hS.drew.draw m, v0, n1, n2, m0, t0, r0, e0⟩)))
  have hE := hL1.setR 1 (.bool true)
  go_wp2_with fail
  apply hk.out
  exact hE
theorem reach2 {Q0 : Exit → Act → World → Prop} {Kr : Act → World → Prop} {w x : World} {S0 : Obj} {hB rB gB L V I : Nat} (u0 u1 u2 u3 u4 u5 u6 u7 u8 u10 u11 u12 u13 u14 u15 u16 u17 u18 u19 u20 u21 u22 u23 u24 u25 u26 u27 u28 u29 u30 u31 u32 u33 u34 u35 u36 u37 u38 u39 u40 u41 u42 u43 u44 u45 u46 u47 u48 u49 u50 u51 u52 u53 u54 u55 u56 u57 u58 u59 u60 u61 u62 u63 u64 u65 u66 u67 u68 u69 u70 u71 u72 u73 u74 u75 u76 u77 u78 u79 u80 u81 u82 u83 u84 u85 u86 u87 u88 u89 u90 u91 u92 u93 u94 u95 u96 u97 u98 u99 u100 u101 u102 u103 u104 u105 u106 u107 u108 u109 u110 u111 u112 u113 u114 u115 u116 u117 u118 u119 u120 u121 u122 u123 u124 u127 u128 u129 u130 u131 u132 u133 u134 u135 u136 u137 u138 u139 u140 u141 u142 u143 u144 u145 u146 u147 u148 u149 u150 u151 u152 u153 u154 u155 u156 u157 u158 u159 u160 u161 u162 u163 u164 u165 u166 u167 u168 u169 u170 u171 u172 u173 u174 u175 u176 u177 u178 u179 u180 u181 u182 u183 u184 u185 : Value) (hk : Hid (∀ (v18 v127 v128 v129 v130 v131 v132 v133 v134 v135 v136 v137 v138 v139 v140 v141 v142 v143 v144 v145 v146 v147 v148 v149 v150 v151 v152 : Value) (x' : World), Ls w x' S0 hB rB gB L V I #[.bool true, .bool true, .bool false, .bool true] #[.bool true, .bool true, .bool false, .bool false] #[.bool false, .bool false, .bool false, .bool false] #[.int .i64 6, .int .i64 (-10), .int .i64 24, .int .i64 8] → Kr ⟨List.toArray (u0 :: u1 :: u2 :: u3 :: u4 :: u5 :: u6 :: u7 :: u8 :: .pointer (some ⟨V, 0, none⟩) :: u10 :: u11 :: u12 :: u13 :: u14 :: u15 :: u16 :: u17 :: v18 :: u19 :: u20 :: u21 :: u22 :: u23 :: u24 :: u25 :: u26 :: u27 :: u28 :: u29 :: u30 :: u31 :: u32 :: u33 :: u34 :: u35 :: u36 :: u37 :: u38 :: u39 :: u40 :: u41 :: u42 :: u43 :: u44 :: u45 :: u46 :: u47 :: u48 :: u49 :: u50 :: u51 :: u52 :: u53 :: u54 :: u55 :: u56 :: u57 :: u58 :: u59 :: u60 :: u61 :: u62 :: u63 :: u64 :: u65 :: u66 :: u67 :: u68 :: u69 :: u70 :: u71 :: u72 :: u73 :: u74 :: u75 :: u76 :: u77 :: u78 :: u79 :: u80 :: u81 :: u82 :: u83 :: u84 :: u85 :: u86 :: u87 :: u88 :: u89 :: u90 :: u91 :: u92 :: u93 :: u94 :: u95 :: u96 :: u97 :: u98 :: u99 :: u100 :: u101 :: u102 :: u103 :: u104 :: u105 :: u106 :: u107 :: u108 :: u109 :: u110 :: u111 :: u112 :: u113 :: u114 :: u115 :: u116 :: u117 :: u118 :: u119 :: u120 :: u121 :: u122 :: u123 :: u124 :: .int .i64 4 :: .int .i64 3 :: v127 :: v128 :: v129 :: v130 :: v131 :: v132 :: v133 :: v134 :: v135 :: v136 :: v137 :: v138 :: v139 :: v140 :: v141 :: v142 :: v143 :: v144 :: v145 :: v146 :: v147 :: v148 :: v149 :: v150 :: v151 :: v152 :: u153 :: u154 :: u155 :: u156 :: u157 :: u158 :: u159 :: u160 :: u161 :: u162 :: u163 :: u164 :: u165 :: u166 :: u167 :: u168 :: u169 :: u170 :: u171 :: u172 :: u173 :: u174 :: u175 :: u176 :: u177 :: u178 :: u179 :: u180 :: u181 :: u182 :: u183 :: u184 :: u185 :: []), []⟩ x')) (hA : Ls w x S0 hB rB gB L V I #[.bool true, .bool true, .bool false, .bool true] #[.bool true, .bool true, .bool false, .bool false] #[.bool false, .bool false, .bool false, .bool false] #[.int .i64 6, .int .i64 (-10), .int .i64 24, .int .i64 8]) :
    Code.wp prog (body47 7) (Exit.then Kr (NoPanic Q0)) ⟨List.toArray (u0 :: u1 :: u2 :: u3 :: u4 :: u5 :: u6 :: u7 :: u8 :: .pointer (some ⟨V, 0, none⟩) :: u10 :: u11 :: u12 :: u13 :: u14 :: u15 :: u16 :: u17 :: u18 :: u19 :: u20 :: u21 :: u22 :: u23 :: u24 :: u25 :: u26 :: u27 :: u28 :: u29 :: u30 :: u31 :: u32 :: u33 :: u34 :: u35 :: u36 :: u37 :: u38 :: u39 :: u40 :: u41 :: u42 :: u43 :: u44 :: u45 :: u46 :: u47 :: u48 :: u49 :: u50 :: u51 :: u52 :: u53 :: u54 :: u55 :: u56 :: u57 :: u58 :: u59 :: u60 :: u61 :: u62 :: u63 :: u64 :: u65 :: u66 :: u67 :: u68 :: u69 :: u70 :: u71 :: u72 :: u73 :: u74 :: u75 :: u76 :: u77 :: u78 :: u79 :: u80 :: u81 :: u82 :: u83 :: u84 :: u85 :: u86 :: u87 :: u88 :: u89 :: u90 :: u91 :: u92 :: u93 :: u94 :: u95 :: u96 :: u97 :: u98 :: u99 :: u100 :: u101 :: u102 :: u103 :: u104 :: u105 :: u106 :: u107 :: u108 :: u109 :: u110 :: u111 :: u112 :: u113 :: u114 :: u115 :: u116 :: u117 :: u118 :: u119 :: u120 :: u121 :: u122 :: u123 :: u124 :: .int .i64 4 :: .int .i64 2 :: u127 :: u128 :: u129 :: u130 :: u131 :: u132 :: u133 :: u134 :: u135 :: u136 :: u137 :: u138 :: u139 :: u140 :: u141 :: u142 :: u143 :: u144 :: u145 :: u146 :: u147 :: u148 :: u149 :: u150 :: u151 :: u152 :: u153 :: u154 :: u155 :: u156 :: u157 :: u158 :: u159 :: u160 :: u161 :: u162 :: u163 :: u164 :: u165 :: u166 :: u167 :: u168 :: u169 :: u170 :: u171 :: u172 :: u173 :: u174 :: u175 :: u176 :: u177 :: u178 :: u179 :: u180 :: u181 :: u182 :: u183 :: u184 :: u185 :: []), []⟩ x := by
  conv => arg 2; whnf
  have hS := hA.al (.cells #[.int .i64 2] 3)
  have n0 := (row4 hS.l).1
  have n1 := (row4 hS.l).2.1
  have n2 := (row4 hS.l).2.2.1
  have m0 := (row4 hS.h).2.2.1
  have r0 := (row4 hS.r).2.2.1
  have e0 := (row4 hS.r).2.2.2.2.2.2.1
  have v0 := cell_of_one hS.v
  have t0 : (x.alloc (.cells #[.int .i64 2] 3)).cell? ⟨x.heap.size, 0, none⟩ = some (.int .i64 2) := cell_of_one (al1 _ _)
  have ne3 : x.heap.size ≠ rB := by have := lt_of_block hA.r; omega
  have ne0 : V ≠ rB := hA.d.2.2.2.2.2.2.2.2.2.2.2.2.1
  have ne1 : L ≠ rB := hA.d.2.2.2.2.2.2.2.2.2.1
  have ne2 : hB ≠ rB := hA.d.2.2.2.2.2.1
  clear hA
  go_wp2_with fail
  generalize (x.alloc (.cells #[.int .i64 2] 3)) = y at hS n0 n1 n2 m0 r0 e0 v0 t0  ⊢
  generalize x.heap.size = Sn at t0 ne3 ⊢
  go_big_region
  have hE := (hS.setR 2 (.bool false)).drew
  go_wp2_with fail
  apply hk.out
  exact hE
theorem reach3 {Q0 : Exit → Act → World → Prop} {Kr : Act → World → Prop} {w x : World} {S0 : Obj} {hB rB gB L V I : Nat} (u0 u1 u2 u3 u4 u5 u6 u7 u8 u10 u11 u12 u13 u14 u15 u16 u17 u18 u19 u20 u21 u22 u23 u24 u25 u26 u27 u28 u29 u30 u31 u32 u33 u34 u35 u36 u37 u38 u39 u40 u41 u42 u43 u44 u45 u46 u47 u48 u49 u50 u51 u52 u53 u54 u55 u56 u57 u58 u59 u60 u61 u62 u63 u64 u65 u66 u67 u68 u69 u70 u71 u72 u73 u74 u75 u76 u77 u78 u79 u80 u81 u82 u83 u84 u85 u86 u87 u88 u89 u90 u91 u92 u93 u94 u95 u96 u97 u98 u99 u100 u101 u102 u103 u104 u105 u106 u107 u108 u109 u110 u111 u112 u113 u114 u115 u116 u117 u118 u119 u120 u121 u122 u123 u124 u127 u128 u129 u130 u131 u132 u133 u134 u135 u136 u137 u138 u139 u140 u141 u142 u143 u144 u145 u146 u147 u148 u149 u150 u151 u152 u153 u154 u155 u156 u157 u158 u159 u160 u161 u162 u163 u164 u165 u166 u167 u168 u169 u170 u171 u172 u173 u174 u175 u176 u177 u178 u179 u180 u181 u182 u183 u184 u185 : Value) (hk : Hid (∀ (v18 v127 v128 v129 v130 v131 v132 v133 v134 v135 v136 v137 v138 v139 v140 v141 v142 v143 v144 v145 v146 v147 v148 v149 v150 v151 v152 : Value) (x' : World), Ls w x' S0 hB rB gB L V I #[.bool true, .bool true, .bool false, .bool true] #[.bool true, .bool true, .bool false, .bool true] #[.bool false, .bool false, .bool false, .bool false] #[.int .i64 6, .int .i64 (-10), .int .i64 24, .int .i64 8] → Kr ⟨List.toArray (u0 :: u1 :: u2 :: u3 :: u4 :: u5 :: u6 :: u7 :: u8 :: .pointer (some ⟨V, 0, none⟩) :: u10 :: u11 :: u12 :: u13 :: u14 :: u15 :: u16 :: u17 :: v18 :: u19 :: u20 :: u21 :: u22 :: u23 :: u24 :: u25 :: u26 :: u27 :: u28 :: u29 :: u30 :: u31 :: u32 :: u33 :: u34 :: u35 :: u36 :: u37 :: u38 :: u39 :: u40 :: u41 :: u42 :: u43 :: u44 :: u45 :: u46 :: u47 :: u48 :: u49 :: u50 :: u51 :: u52 :: u53 :: u54 :: u55 :: u56 :: u57 :: u58 :: u59 :: u60 :: u61 :: u62 :: u63 :: u64 :: u65 :: u66 :: u67 :: u68 :: u69 :: u70 :: u71 :: u72 :: u73 :: u74 :: u75 :: u76 :: u77 :: u78 :: u79 :: u80 :: u81 :: u82 :: u83 :: u84 :: u85 :: u86 :: u87 :: u88 :: u89 :: u90 :: u91 :: u92 :: u93 :: u94 :: u95 :: u96 :: u97 :: u98 :: u99 :: u100 :: u101 :: u102 :: u103 :: u104 :: u105 :: u106 :: u107 :: u108 :: u109 :: u110 :: u111 :: u112 :: u113 :: u114 :: u115 :: u116 :: u117 :: u118 :: u119 :: u120 :: u121 :: u122 :: u123 :: u124 :: .int .i64 4 :: .int .i64 4 :: v127 :: v128 :: v129 :: v130 :: v131 :: v132 :: v133 :: v134 :: v135 :: v136 :: v137 :: v138 :: v139 :: v140 :: v141 :: v142 :: v143 :: v144 :: v145 :: v146 :: v147 :: v148 :: v149 :: v150 :: v151 :: v152 :: u153 :: u154 :: u155 :: u156 :: u157 :: u158 :: u159 :: u160 :: u161 :: u162 :: u163 :: u164 :: u165 :: u166 :: u167 :: u168 :: u169 :: u170 :: u171 :: u172 :: u173 :: u174 :: u175 :: u176 :: u177 :: u178 :: u179 :: u180 :: u181 :: u182 :: u183 :: u184 :: u185 :: []), []⟩ x')) (hA : Ls w x S0 hB rB gB L V I #[.bool true, .bool true, .bool false, .bool true] #[.bool true, .bool true, .bool false, .bool false] #[.bool false, .bool false, .bool false, .bool false] #[.int .i64 6, .int .i64 (-10), .int .i64 24, .int .i64 8]) :
    Code.wp prog (body47 7) (Exit.then Kr (NoPanic Q0)) ⟨List.toArray (u0 :: u1 :: u2 :: u3 :: u4 :: u5 :: u6 :: u7 :: u8 :: .pointer (some ⟨V, 0, none⟩) :: u10 :: u11 :: u12 :: u13 :: u14 :: u15 :: u16 :: u17 :: u18 :: u19 :: u20 :: u21 :: u22 :: u23 :: u24 :: u25 :: u26 :: u27 :: u28 :: u29 :: u30 :: u31 :: u32 :: u33 :: u34 :: u35 :: u36 :: u37 :: u38 :: u39 :: u40 :: u41 :: u42 :: u43 :: u44 :: u45 :: u46 :: u47 :: u48 :: u49 :: u50 :: u51 :: u52 :: u53 :: u54 :: u55 :: u56 :: u57 :: u58 :: u59 :: u60 :: u61 :: u62 :: u63 :: u64 :: u65 :: u66 :: u67 :: u68 :: u69 :: u70 :: u71 :: u72 :: u73 :: u74 :: u75 :: u76 :: u77 :: u78 :: u79 :: u80 :: u81 :: u82 :: u83 :: u84 :: u85 :: u86 :: u87 :: u88 :: u89 :: u90 :: u91 :: u92 :: u93 :: u94 :: u95 :: u96 :: u97 :: u98 :: u99 :: u100 :: u101 :: u102 :: u103 :: u104 :: u105 :: u106 :: u107 :: u108 :: u109 :: u110 :: u111 :: u112 :: u113 :: u114 :: u115 :: u116 :: u117 :: u118 :: u119 :: u120 :: u121 :: u122 :: u123 :: u124 :: .int .i64 4 :: .int .i64 3 :: u127 :: u128 :: u129 :: u130 :: u131 :: u132 :: u133 :: u134 :: u135 :: u136 :: u137 :: u138 :: u139 :: u140 :: u141 :: u142 :: u143 :: u144 :: u145 :: u146 :: u147 :: u148 :: u149 :: u150 :: u151 :: u152 :: u153 :: u154 :: u155 :: u156 :: u157 :: u158 :: u159 :: u160 :: u161 :: u162 :: u163 :: u164 :: u165 :: u166 :: u167 :: u168 :: u169 :: u170 :: u171 :: u172 :: u173 :: u174 :: u175 :: u176 :: u177 :: u178 :: u179 :: u180 :: u181 :: u182 :: u183 :: u184 :: u185 :: []), []⟩ x := by
  conv => arg 2; whnf
  have hS := hA.al (.cells #[.int .i64 3] 3)
  have n0 := (row4 hS.l).1
  have n1 := (row4 hS.l).2.1
  have n2 := (row4 hS.l).2.2.1
  have m0 := (row4 hS.h).2.2.2.1
  have r0 := (row4 hS.r).2.2.2.1
  have e0 := (row4 hS.r).2.2.2.2.2.2.2
  have v0 := cell_of_one hS.v
  have t0 : (x.alloc (.cells #[.int .i64 3] 3)).cell? ⟨x.heap.size, 0, none⟩ = some (.int .i64 3) := cell_of_one (al1 _ _)
  have y2 := (row4 hS.r).2.2.1
  have y1 := (row4 hS.r).2.1
  have ne3 : x.heap.size ≠ rB := by have := lt_of_block hA.r; omega
  have ne0 : V ≠ rB := hA.d.2.2.2.2.2.2.2.2.2.2.2.2.1
  have ne1 : L ≠ rB := hA.d.2.2.2.2.2.2.2.2.2.1
  have ne2 : hB ≠ rB := hA.d.2.2.2.2.2.1
  clear hA
  go_wp2_with fail
  generalize (x.alloc (.cells #[.int .i64 3] 3)) = y at hS n0 n1 n2 m0 r0 e0 v0 t0 y2 y1 ⊢
  generalize x.heap.size = Sn at t0 ne3 ⊢
  go_region_held3 (fun w' => w'.cell? ⟨V, 0, none⟩ = some (.pointer (some ⟨L, 0, none⟩)) ∧ w'.cell? ⟨L, 1, none⟩ = some (.slice (some ⟨hB, 0, none⟩) 4 4) ∧ w'.cell? ⟨L, 2, none⟩ = some (.slice (some ⟨rB, 0, none⟩) 4 4) ∧ w'.cell? ⟨hB, 3, none⟩ = some (.bool true) ∧ w'.cell? ⟨Sn, 0, none⟩ = some (.int .i64 3))
    (first | exact ⟨v0, n1, n2, m0, t0⟩ | exact ⟨b0, b1, b2, b3, b4⟩ | exact ⟨cset b0 ne0, cset b1 ne1, cset b2 ne1, cset b3 ne2, cset b4 ne3⟩)
    (first | (go_at_call 49; refine (any87_3 (w := y.drew) n0 t0 v0 n2 y2 y1).mono ?_; rintro e w1 ⟨rfl, hw1⟩; obtain ⟨hL1, b0, b1, b2, b3, b4, b5, b6⟩ : Ls w w1 S0 hB rB gB L V I #[.bool true, .bool true, .bool false, .bool true] #[.bool true, .bool true, .bool false, .bool false] #[.bool false, .bool false, .bool false, .bool false] #[.int .i64 6, .int .i64 (-10), .int .i64 24, .int .i64 8] ∧ w1.cell? ⟨V, 0, none⟩ = some (.pointer (some ⟨L, 0, none⟩)) ∧ w1.cell? ⟨L, 1, none⟩ = some (.slice (some ⟨hB, 0, none⟩) 4 4) ∧ w1.cell? ⟨L, 2, none⟩ = some (.slice (some ⟨rB, 0, none⟩) 4 4) ∧ w1.cell? ⟨hB, 3, none⟩ = some (.bool true) ∧ w1.cell? ⟨Sn, 0, none⟩ = some (.int .i64 3) ∧ w1.cell? ⟨rB, 3, none⟩ = some (.bool false) ∧ w1.frozen? ⟨rB, 3, none⟩ = false := by (obtain ⟨m, rfl⟩ := hw1; exact ⟨hS.drew.draw m, v0, n1, n2, m0, t0, r0, e0⟩)))
  have hE := hL1.setR 3 (.bool true)
  go_wp2_with fail
  apply hk.out
  exact hE
end Go.Proofs.YtlfdhaiigdllcaaGreatDoor
