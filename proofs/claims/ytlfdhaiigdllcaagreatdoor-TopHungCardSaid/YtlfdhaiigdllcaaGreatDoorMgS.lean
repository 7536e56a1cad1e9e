/- toph: source.Text at the house that the witness writes. -/
import Derived.LoopN
import Derived.RegionTactic
import Derived.RegionCalls
import Derived.Deep.RegionWith
import Derived.Deep.AppendLies
import Derived.Test.YtlfdhaiigdllcaaGreatDoorMgR

namespace Go.Proofs.YtlfdhaiigdllcaaGreatDoor
open Tryz Go.RowKit Go.Shelf

theorem ad0' (ad : Addr) : ad.add 0 = ad := by rcases ad with ⟨b, o, _ | s⟩ <;> rfl
theorem adS (ad : Addr) (j : Nat) : ad.add (j + 1) = ⟨ad.block, ad.off + (j + 1), none⟩ := by unfold Addr.add; split <;> simp_all
theorem buf_in {B b : Nat} {bs : List Value} {w : World} (h : Lib.IsBuilder 108 5 B b bs w) {v : Value} (hv : w.cell? ⟨b, 1, none⟩ = some v) {k : Nat} (hk : v.ownBlock = some k) : B ≤ k ∧ k < w.heap.size := by
  have one : ∀ p, Lib.BuilderAt 108 5 B b p bs w → B ≤ k ∧ k < w.heap.size := fun p hp => by
    obtain ⟨hB, u, hbk, hown, _⟩ := hp
    rw [Lib.cell_of_heap hbk] at hv
    have hv : u = v := by simpa using hv
    subst hv
    exact hown.lt k hk
  exact h.elim (one _) (one _)
theorem buf_lt {B b : Nat} {bs : List Value} {w : World} (h : Lib.IsBuilder 108 5 B b bs w) {v : Value} (hv : w.cell? ⟨b, 1, none⟩ = some v) {k : Nat} (hk : v.ownBlock = some k) : k < w.heap.size := (buf_in h hv hk).2
theorem sz1 (w : World) (o : Obj) : (w.alloc o).heap.size = w.heap.size + 1 := by simp
theorem sz2 (w : World) (o p : Obj) : ((w.alloc o).alloc p).heap.size = w.heap.size + 2 := by simp
theorem al1 (w : World) (o : Obj) : (w.alloc o).heap[w.heap.size]? = some o := by unfold World.alloc; exact Array.getElem?_push_size
theorem al2a (w : World) (o p : Obj) : ((w.alloc o).alloc p).heap[w.heap.size]? = some o := by rw [Below.heap_alloc _ _ _ (by rw [sz1]; omega), al1]
theorem al2b (w : World) (o p : Obj) : ((w.alloc o).alloc p).heap[w.heap.size + 1]? = some p := by
  have := al1 (w.alloc o) p
  rw [sz1] at this
  exact this
theorem bel1 (w : World) (o : Obj) : Below w.heap.size w (w.alloc o) := (Below.refl _ _).alloc (Nat.le_refl _) _
theorem bel2 (w : World) (o p : Obj) : Below w.heap.size w ((w.alloc o).alloc p) := (bel1 w o).alloc (by rw [sz1]; omega) _

theorem cal {w : World} {a : Addr} {v : Value} (h : w.cell? a = some v) (o : Obj) : (w.alloc o).cell? a = some v := (World.cell?_of_block ((bel1 w o).block a.block (World.block_lt_of_cell? w a h))).trans h
theorem cal2 {w : World} {a : Addr} {v : Value} (h : w.cell? a = some v) (o p : Obj) : ((w.alloc o).alloc p).cell? a = some v := cal (cal h o) p

theorem it0 : IT 0 = ⟨#[48]⟩ := by simp [IT, Lib.itoa, Lib.decDigits]
theorem it1 : IT 1 = ⟨#[49]⟩ := by simp [IT, Lib.itoa, Lib.decDigits]
theorem it2 : IT 2 = ⟨#[50]⟩ := by simp [IT, Lib.itoa, Lib.decDigits]
theorem it7 : IT 7 = ⟨#[55]⟩ := by simp [IT, Lib.itoa, Lib.decDigits]
theorem it10 : IT 10 = ⟨#[49, 48]⟩ := by simp [IT, Lib.itoa, Lib.decDigits]
theorem it40 : IT 40 = ⟨#[52, 48]⟩ := by simp [IT, Lib.itoa, Lib.decDigits]
theorem it60 : IT 60 = ⟨#[54, 48]⟩ := by simp [IT, Lib.itoa, Lib.decDigits]
theorem it100 : IT 100 = ⟨#[49, 48, 48]⟩ := by simp [IT, Lib.itoa, Lib.decDigits]
theorem it1000 : IT 1000 = ⟨#[49, 48, 48, 48]⟩ := by simp [IT, Lib.itoa, Lib.decDigits]
theorem it8000 : IT 8000 = ⟨#[56, 48, 48, 48]⟩ := by simp [IT, Lib.itoa, Lib.decDigits]
theorem line_lit {B b : Nat} {bs : List Value} {u : World} (ws : List ByteArray) (ns : List Int) (wk nk nw nn : Nat) (hwk : wk = u.heap.size) (hnk : nk = u.heap.size + 1) (hnw : nw = ws.length) (hnn : nn = ns.length)
    (h : Lib.IsBuilder 108 5 B b bs u) (hB : B ≤ u.heap.size) (hG : ∀ w', Below B u w' → Tab w') (hw0 : 0 < ws.length)
    (hrange : ∀ n ∈ ns, -9223372036854775808 ≤ n ∧ n ≤ 9223372036854775807) (hlen : ws.length + ns.length ≤ 1000) (hL : (joinL (ws ++ ns.map IT)).length ≤ 1000000) (hbs : bs.length ≤ 1000000) :
    Calls prog 52 #[.pointer (some ⟨b, 0, none⟩), .slice (some ⟨wk, 0, none⟩) nw nw, .slice (some ⟨nk, 0, none⟩) nn nn] ((u.alloc (.cells (ws.map Value.string).toArray 9)).alloc (.cells (ns.map (Value.int .i64)).toArray 3)) fun e w' =>
      e = .returned (.tuple #[]) ∧ Lib.IsBuilder 108 5 B b (bs ++ Lib.byteCells (lineL ws ns)) w' ∧ Below B u w' ∧ u.heap.size + 2 ≤ w'.heap.size ∧ ∀ k, k < u.heap.size → k ≠ b → (∀ v, u.cell? ⟨b, 1, none⟩ = some v → v.ownBlock ≠ some k) → w'.heap[k]? = u.heap[k]? := by
  subst hwk hnk hnw hnn
  obtain ⟨o, ho⟩ : ∃ o, o = Obj.cells (ws.map Value.string).toArray 9 := ⟨_, rfl⟩
  obtain ⟨p, hp⟩ : ∃ p, p = Obj.cells (ns.map (Value.int .i64)).toArray 3 := ⟨_, rfl⟩
  rw [← ho, ← hp]
  have hbl : b < u.heap.size := h.elim (fun h => h.lt) (fun h => h.lt)
  have eb : ((u.alloc o).alloc p).heap[b]? = u.heap[b]? := (bel2 u o p).block b hbl
  have hu : ∀ v, ((u.alloc o).alloc p).cell? ⟨b, 1, none⟩ = some v → u.cell? ⟨b, 1, none⟩ = some v := fun v hv => by rw [World.cell?_of_block eb.symm]; exact hv
  have hb2 : Below B u ((u.alloc o).alloc p) := (bel2 u o p).mono hB
  refine (line_ok ws ns u.heap.size (u.heap.size + 1) 0 ns.length (builder_below h (bel2 u o p)) (by rw [sz2]; omega) (fun w' hw' => hG w' (hb2.trans hw')) (by rw [al2a, ho]) hw0 hB (by omega)
    (fun v hv e => absurd (buf_lt h (hu v hv) e) (by omega)) (fun j n hj => ?_) (by omega) (by rw [sz2]; omega) hrange hlen hL hbs).mono ?_
  · rw [Lib.cell_of_heap (show ((u.alloc o).alloc p).heap[u.heap.size + 1]? = some (.cells (ns.map (Value.int .i64)).toArray 3 (0, 0)) by rw [al2b, hp])]
    simp [hj]
  · rintro e w' ⟨rfl, h1, h2, h3, h4⟩
    rw [sz2] at h3
    refine ⟨rfl, h1, hb2.trans h2, h3, fun k hk hkb hku => ?_⟩
    rw [h4 k (by rw [sz2]; omega) hkb (by omega) (fun v hv => hku v (hu v hv)), (bel2 u o p).block k hk]

theorem own_lit {B : Nat} (u : World) (ns : List Int) (n : Nat) (hn : n = ns.length) (hB : B ≤ u.heap.size) (hm : ns.length ≤ 1000) : (u.alloc (.cells (ns.map (Value.int .i64)).toArray 3)).ownsRow B 3 1 (.slice (some ⟨u.heap.size, 0, none⟩) n n) n (ns.map (Value.int .i64)) := by
  subst hn
  exact ⟨by simp, .inr ⟨u.heap.size, ns.length, (ns.map (Value.int .i64)).toArray, rfl, hB, al1 _ _, Nat.le_refl _, by unfold maxLen; omega, by simp, by simp [List.take_of_length_le]⟩⟩
theorem set_call {B b : Nat} {bs : List Value} {u W : World} (ws : List ByteArray) (ns : List Int) (bk g nw nn cap : Nat) (hnw : nw = ws.length) (hnn : nn = ns.length) (hb : Below u.heap.size u W) (hk : u.heap.size ≤ bk) (hws : W.heap[bk]? = some (.cells (ws.map Value.string).toArray 9 (0, 0)))
    (hown : W.ownsRow B 3 1 (.slice (some ⟨g, 0, none⟩) nn cap) nn (ns.map (Value.int .i64))) (hg : u.heap.size ≤ g) (hgk : g ≠ bk)
    (h : Lib.IsBuilder 108 5 B b bs u) (hB : B ≤ u.heap.size) (hG : ∀ w', Below B u w' → Tab w') (hw0 : 0 < ws.length)
    (hrange : ∀ n ∈ ns, -9223372036854775808 ≤ n ∧ n ≤ 9223372036854775807) (hlen : ws.length + ns.length ≤ 1000) (hL : (joinL (ws ++ ns.map IT)).length ≤ 1000000) (hbs : bs.length ≤ 1000000) :
    Calls prog 52 #[.pointer (some ⟨b, 0, none⟩), .slice (some ⟨bk, 0, none⟩) nw nw, .slice (some ⟨g, 0, none⟩) nn cap] W fun e w' =>
      e = .returned (.tuple #[]) ∧ Lib.IsBuilder 108 5 B b (bs ++ Lib.byteCells (lineL ws ns)) w' ∧ Below B u w' ∧ u.heap.size ≤ w'.heap.size ∧ ∀ k, k < u.heap.size → k ≠ b → (∀ v, u.cell? ⟨b, 1, none⟩ = some v → v.ownBlock ≠ some k) → w'.heap[k]? = u.heap[k]? := by
  subst hnw hnn
  have hbl : b < u.heap.size := h.elim (fun h => h.lt) (fun h => h.lt)
  have eb : W.heap[b]? = u.heap[b]? := hb.block b hbl
  have hu : ∀ v, W.cell? ⟨b, 1, none⟩ = some v → u.cell? ⟨b, 1, none⟩ = some v := fun v hv => by rw [World.cell?_of_block eb.symm]; exact hv
  have hsz := hb.size
  have hb2 : Below B u W := hb.mono hB
  have hgl := (hown.lt g rfl).2
  refine (line_ok ws ns bk g 0 cap (builder_below h hb) (by omega) (fun w' hw' => hG w' (hb2.trans hw')) hws hw0 (by omega) (by omega)
    (fun v hv e => absurd (buf_lt h (hu v hv) e) (by omega)) (fun j n hj => ?_) hgk hgl hrange hlen hL hbs).mono ?_
  · have := hown.cells (g := g) rfl j (.int .i64 n) (by rw [List.getElem?_map, hj]; rfl)
    rw [add0] at this
    rw [Nat.zero_add]
    exact this
  · rintro e w' ⟨rfl, h1, h2, h3, h4⟩
    refine ⟨rfl, h1, hb2.trans h2, by omega, fun k hk hkb hku => ?_⟩
    rw [h4 k (by omega) hkb (by omega) (fun v hv => hku v (hu v hv)), hb.block k hk]
abbrev WdO : Obj := .cells #[.string ⟨#[115, 101, 116]⟩, .string ⟨#[115]⟩] 9
abbrev NmO : Obj := .cells #[.int .i64 0, .int .i64 0, .int .i64 8000, .int .i64 1000, .int .i64 60, .int .i64 40, .int .i64 1, .int .i64 100, .int .i64 10] 3
abbrev ws1 : List ByteArray := [⟨#[115, 101, 116]⟩, ⟨#[115]⟩]
abbrev ns1 : List Int := [0, 0, 8000, 1000, 60, 40, 1, 100, 10]
abbrev ns2 : List Int := [0, 0, 8000, 1000, 60, 40, 1, 100, 10, 0, 1000]
theorem tl1 : (joinL (ws1 ++ ns2.map IT)).length ≤ 1000000 := by simp only [List.map_cons, List.map_nil, it0, it1, it10, it40, it60, it100, it1000, it8000]; decide
theorem tl3 : (joinL ([⟨#[98, 114, 105, 99, 107]⟩, ⟨#[98]⟩] ++ [7, 2].map IT)).length ≤ 1000000 := by simp only [List.map_cons, List.map_nil, it2, it7]; decide
abbrev by1 : List Value := [] ++ Lib.byteCells (lineL [⟨#[104, 111, 117, 115, 101]⟩, ⟨#[104]⟩] [8000])
theorem lL2 : (by1 ++ Lib.byteCells (lineL ws1 ns2)).length ≤ 1000000 := by simp only [by1, lineL, List.map_cons, List.map_nil, it0, it1, it10, it40, it60, it100, it1000, it8000]; decide
def txt : List UInt8 := lineL [⟨#[104, 111, 117, 115, 101]⟩, ⟨#[104]⟩] [8000] ++ lineL [⟨#[115, 101, 116]⟩, ⟨#[115]⟩] [0, 0, 8000, 1000, 60, 40, 1, 100, 10, 0, 1000] ++ lineL [⟨#[98, 114, 105, 99, 107]⟩, ⟨#[98]⟩] [7, 2]
theorem txt_eq : by1 ++ Lib.byteCells (lineL ws1 ns2) ++ Lib.byteCells (lineL [⟨#[98, 114, 105, 99, 107]⟩, ⟨#[98]⟩] [7, 2]) = Lib.byteCells txt := by
  simp only [by1, txt, Lib.byteCells, List.map_append, List.nil_append]
theorem txt_is : txt = "house h 8000\nset s 0 0 8000 1000 60 40 1 100 10 0 1000\nbrick b 7 2\n".toUTF8.data.toList := by
  simp only [txt, lineL, List.map_cons, List.map_nil, it0, it1, it2, it7, it10, it40, it60, it100, it1000, it8000]
  decide +kernel
theorem txt_len : (Lib.byteCells txt).length = 67 := by rw [txt_is]; decide +kernel
theorem txt_ne : txt ≠ [] := by rw [txt_is]; decide +kernel
def Post (B b : Nat) (bs : List Value) (u : World) (e : Ending) (w' : World) : Prop :=
  e = .returned (.tuple #[]) ∧ Lib.IsBuilder 108 5 B b (bs ++ Lib.byteCells (lineL ws1 ns2)) w' ∧ Below B u w' ∧ u.heap.size ≤ w'.heap.size ∧ ∀ k, k < u.heap.size → k ≠ b → (∀ v, u.cell? ⟨b, 1, none⟩ = some v → v.ownBlock ≠ some k) → w'.heap[k]? = u.heap[k]?
theorem set_any {B b bk g cap : Nat} {bs : List Value} {u W : World} (hb : Below u.heap.size u W) (hk : u.heap.size ≤ bk) (hws : W.heap[bk]? = some WdO) (hown : W.ownsRow B 3 1 (.slice (some ⟨g, 0, none⟩) 11 cap) 11 (ns2.map (Value.int .i64))) (hg : u.heap.size ≤ g) (hgk : g ≠ bk)
    (h : Lib.IsBuilder 108 5 B b bs u) (hB : B ≤ u.heap.size) (hG : ∀ w', Below B u w' → Tab w') (hbs : bs.length ≤ 1000000) : Calls prog 52 #[.pointer (some ⟨b, 0, none⟩), .slice (some ⟨bk, 0, none⟩) 2 2, .slice (some ⟨g, 0, none⟩) 11 cap] W (Post B b bs u) :=
  set_call ws1 ns2 bk g 2 11 cap rfl rfl hb hk hws hown hg hgk h hB hG (by decide) (by decide) (by decide) tl1 hbs
theorem set_grow {u X w4 : World} {nk : Nat} (hX : Below u.heap.size u X) (hg : X.grownBy w4 (some nk)) (hnk : u.heap.size ≤ nk) : Below u.heap.size u w4 := hX.grown hg hX.size (fun k hk => by cases hk; exact hnk)
theorem set_A {B b : Nat} {bs : List Value} {u : World} (h : Lib.IsBuilder 108 5 B b bs u) (hB : B ≤ u.heap.size) (hG : ∀ w', Below B u w' → Tab w') (hbs : bs.length ≤ 1000000) (g cap : Nat) (w4 : World) (hown : w4.ownsRow B 3 1 (.slice (some ⟨g, 0, none⟩) 11 cap) 11 (ns2.map (Value.int .i64)))
    (hg : ((u.alloc WdO).alloc NmO).drew.grownBy w4 (some (u.heap.size + 1))) (hat : some (u.heap.size + 1) = some g ∨ g = u.heap.size + 2) :
    Below u.heap.size u w4 ∧ Calls prog 52 #[.pointer (some ⟨b, 0, none⟩), .slice (some ⟨u.heap.size, 0, none⟩) 2 2, .slice (some ⟨g, 0, none⟩) 11 cap] w4 (Post B b bs u) := by
  have hX : Below u.heap.size u ((u.alloc WdO).alloc NmO).drew := (bel2 u _ _).drew
  have hb := set_grow hX hg (by omega)
  have hgg : u.heap.size + 1 ≤ g := by
    rcases hat with h | h
    · injection h with h; omega
    · omega
  refine ⟨hb, set_any hb (Nat.le_refl _) ?_ hown (by omega) (by omega) h hB hG hbs⟩
  rw [hg.block u.heap.size (by show _ < ((u.alloc WdO).alloc NmO).heap.size; rw [sz2]; omega) (by simp)]
  exact al2a u _ _
theorem set_B {B b : Nat} {bs : List Value} {u : World} (h : Lib.IsBuilder 108 5 B b bs u) (hB : B ≤ u.heap.size) (hG : ∀ w', Below B u w' → Tab w') (hbs : bs.length ≤ 1000000) (g cap : Nat) (w4 : World) (hown : w4.ownsRow B 3 1 (.slice (some ⟨g, 0, none⟩) 11 cap) 11 (ns2.map (Value.int .i64)))
    (hg : ((u.alloc NmO).alloc WdO).drew.grownBy w4 (some u.heap.size)) (hat : some u.heap.size = some g ∨ g = u.heap.size + 2) :
    Below u.heap.size u w4 ∧ Calls prog 52 #[.pointer (some ⟨b, 0, none⟩), .slice (some ⟨u.heap.size + 1, 0, none⟩) 2 2, .slice (some ⟨g, 0, none⟩) 11 cap] w4 (Post B b bs u) := by
  have hX : Below u.heap.size u ((u.alloc NmO).alloc WdO).drew := (bel2 u _ _).drew
  have hb := set_grow hX hg (Nat.le_refl _)
  have hgg : u.heap.size ≤ g ∧ g ≠ u.heap.size + 1 := by
    rcases hat with h | h
    · injection h with h; omega
    · omega
  refine ⟨hb, set_any hb (by omega) ?_ hown (by omega) (by omega) h hB hG hbs⟩
  rw [hg.block (u.heap.size + 1) (by show _ < ((u.alloc NmO).alloc WdO).heap.size; rw [sz2]; omega) (by simp)]
  exact al2b u _ _
theorem set_C {B b : Nat} {bs : List Value} {u : World} (h : Lib.IsBuilder 108 5 B b bs u) (hB : B ≤ u.heap.size) (hG : ∀ w', Below B u w' → Tab w') (hbs : bs.length ≤ 1000000) (g cap : Nat) (w4 : World) (hown : w4.ownsRow B 3 1 (.slice (some ⟨g, 0, none⟩) 11 cap) 11 (ns2.map (Value.int .i64)))
    (hg : (u.alloc NmO).drew.grownBy w4 (some u.heap.size)) (hat : some u.heap.size = some g ∨ g = u.heap.size + 1) :
    Below u.heap.size u w4 ∧ Calls prog 52 #[.pointer (some ⟨b, 0, none⟩), .slice (some ⟨w4.heap.size, 0, none⟩) 2 2, .slice (some ⟨g, 0, none⟩) 11 cap] (w4.alloc WdO) (Post B b bs u) := by
  have hX : Below u.heap.size u (u.alloc NmO).drew := (bel1 u _).drew
  have hb := set_grow hX hg (Nat.le_refl _)
  have hs := hb.size
  have hgl := (hown.lt g rfl).2
  have hgg : u.heap.size ≤ g := by
    rcases hat with h | h
    · injection h with h; omega
    · omega
  exact ⟨hb, set_any (hb.alloc hs _) hs (al1 w4 _) (hown.alloc _) hgg (by omega) h hB hG hbs⟩
theorem info3 : (prog.info? 3).map (fun i => (i.zero, i.size, i.bytes)) = some (some (.int .i64 0), 1, 8) := by kernel_rfl

set_option maxHeartbeats 4000000
set_option maxRecDepth 100000
theorem text_key (w : World) (hG : ∀ w', Below w.heap.size w w' → Tab w') (ad ar ab : Addr) (A2 A3 A4 Ai : Option Addr) (c c2 c3 c4x cr ci cb : Nat)
    (hset : ∀ j u, [Value.string ⟨#[115]⟩, .int .i64 0, .int .i64 0, .int .i64 8000, .int .i64 1000, .slice (some ar) 2 cr, .int .i64 60, .int .i64 40, .int .i64 1, .int .i64 100, .int .i64 10, .slice Ai 0 ci, .slice (some ab) 1 cb][j]? = some u → w.cell? (ad.add j) = some u)
    (hrows : ∀ j u, [Value.int .i64 0, .int .i64 1000][j]? = some u → w.cell? (ar.add j) = some u)
    (hbrick : ∀ j u, [Value.string ⟨#[98]⟩, .int .i64 7, .int .i64 2][j]? = some u → w.cell? (ab.add j) = some u) (hc : 1 ≤ c) (hcr : 2 ≤ cr) (hcb : 1 ≤ cb)
    (c37 : ∀ w', Below w.heap.size w w' → Calls prog 37 #[.agg #[.string ⟨#[104]⟩, .int .i64 8000, .slice (some ad) 1 c, .slice A2 0 c2]] w' fun e w'' => e = .returned (.bool true) ∧ Below w'.heap.size w' w'')
    (c51 : ∀ w', Below w.heap.size w w' → Calls prog 51 #[.agg #[.slice A3 0 c3, .slice A4 0 c4x]] w' fun e w'' => e = .returned (.bool true) ∧ Below w'.heap.size w' w'') :
    Calls prog 17 #[.agg #[.string ⟨#[104]⟩, .int .i64 8000, .slice (some ad) 1 c, .slice A2 0 c2], .agg #[.slice A3 0 c3, .slice A4 0 c4x]] w fun e w' =>
      e = .returned (.tuple #[.string ⟨txt.toArray⟩, .int .i64 0]) ∧ Below w.heap.size w w' := by
  obtain ⟨B, hBe⟩ : ∃ B, B = w.heap.size := ⟨_, rfl⟩
  go_enter Tryz.func17, Tryz.ntmps17
  go_wp2_with (go_at_call 37; refine (c37 _ (bel2 _ _ _)).mono ?_)
  rintro e w1 ⟨rfl, hb1⟩
  have hs1 : w.heap.size + 2 ≤ w1.heap.size := by have := hb1.size; rw [sz2] at this; exact this
  have hH := (hb1.block w.heap.size (by rw [sz2]; omega)).trans (al2a _ _ _)
  have hS := (hb1.block (w.heap.size + 1) (by rw [sz2]; omega)).trans (al2b _ _ _)
  have hS0 : w1.cell? ⟨w.heap.size + 1, 0, none⟩ = some (.slice A3 0 c3) := by rw [Lib.cell_of_heap hS]; rfl
  have hS1 : w1.cell? ⟨w.heap.size + 1, 1, none⟩ = some (.slice A4 0 c4x) := by rw [Lib.cell_of_heap hS]; rfl
  have hw1 : Below w.heap.size w w1 := (bel2 _ _ _).trans (hb1.mono (by rw [sz2]; omega))
  go_wp2_with (go_at_call 51; refine (c51 _ hw1).mono ?_)
  rintro e w2 ⟨rfl, hb2⟩
  have hs2 := hb2.size
  replace hH := (hb2.block w.heap.size (by omega)).trans hH
  replace hS := (hb2.block (w.heap.size + 1) (by omega)).trans hS
  have hw2 := hw1.trans (hb2.mono (by omega))
  have hsz : w.heap.size + 2 ≤ w2.heap.size := by omega
  clear hb1 hb2 hS0 hS1 hw1 hs1 hs2
  have hH0 : w2.cell? ⟨w.heap.size, 0, none⟩ = some (.string ⟨#[104]⟩) := by rw [Lib.cell_of_heap hH]; rfl
  have hH1 : w2.cell? ⟨w.heap.size, 1, none⟩ = some (.int .i64 8000) := by rw [Lib.cell_of_heap hH]; rfl
  have hH0' := cal hH0
  have hH1' := cal2 hH1
  go_wp2_with fail
  have hfb := Lib.fresh_isBuilder 108 5 w2
  have hbB : Below w.heap.size w (w2.alloc (.cells #[.pointer none, .slice none 0 0] 108)) := hw2.alloc (by omega) _
  refine (line_lit (u := w2.alloc (.cells #[.pointer none, .slice none 0 0] 108)) [⟨#[104, 111, 117, 115, 101]⟩, ⟨#[104]⟩] [8000] _ _ _ _ (sz1 _ _).symm (by rw [sz1]) rfl rfl hfb (by rw [sz1]; omega) (fun w' h => hG w' (hbB.trans (h.mono (by omega)))) (by decide) (by decide) (by decide) (by simp only [List.map_cons, List.map_nil, it8000]; decide) (by decide)).mono ?_
  rintro e w3 ⟨rfl, hB3, hb3, hs3, hf3⟩
  have hs2 : w2.heap.size + 3 ≤ w3.heap.size := by rw [sz1] at hs3; exact hs3
  have hc2 : (w2.alloc (.cells #[.pointer none, .slice none 0 0] 108)).cell? ⟨w2.heap.size, 1, none⟩ = some (.slice none 0 0) := by rw [Lib.cell_of_heap (al1 _ _)]; rfl
  have hf3' : ∀ k, k < w2.heap.size → w3.heap[k]? = w2.heap[k]? := fun k hk => by
    rw [hf3 k (by rw [sz1]; omega) (by omega) (fun v hv => by rw [hc2] at hv; cases hv; simp [Value.ownBlock]), Below.heap_alloc _ _ _ hk]
  replace hH := (hf3' _ (by omega)).trans hH
  replace hS := (hf3' _ (by omega)).trans hS
  have hw3 : Below w.heap.size w w3 := hbB.trans (hb3.mono (by omega))
  clear hf3' hf3 hc2 hb3 hbB hfb hH0' hH1' hH0 hH1 hs3
  have hH2 : w3.cell? ⟨w.heap.size, 2, none⟩ = some (.slice (some ad) 1 c) := by rw [Lib.cell_of_heap hH]; rfl
  have hH3 : w3.cell? ⟨w.heap.size, 3, none⟩ = some (.slice A2 0 c2) := by rw [Lib.cell_of_heap hH]; rfl
  go_wp2_with fail
  refine wp_loop_rounds 1 ?_
  rw [rounds_succ]
  go_wp2_with fail
  refine wp_loop_rounds 2 ?_
  rw [rounds_succ]
  have ks : ∀ j u, _ → w3.cell? (ad.add j) = some u := fun j v hv => (hw3.cell (World.block_lt_of_cell? w _ (hset j v hv))).trans (hset j v hv)
  have ks0 := ks 0 _ rfl
  have ks1 := ks 1 _ rfl
  have ks2 := ks 2 _ rfl
  have ks3 := ks 3 _ rfl
  have ks4 := ks 4 _ rfl
  have ks5 := ks 5 _ rfl
  have ks6 := ks 6 _ rfl
  have ks7 := ks 7 _ rfl
  have ks8 := ks 8 _ rfl
  have ks9 := ks 9 _ rfl
  have ks10 := ks 10 _ rfl
  have ks11 := ks 11 _ rfl
  have ks12 := ks 12 _ rfl
  rw [ad0'] at ks0
  rw [adS] at ks1
  rw [adS] at ks2
  rw [adS] at ks3
  rw [adS] at ks4
  rw [adS] at ks5
  rw [adS] at ks6
  rw [adS] at ks7
  rw [adS] at ks8
  rw [adS] at ks9
  rw [adS] at ks10
  rw [adS] at ks11
  rw [adS] at ks12
  clear ks
  go_wp2_with fail
  have hnb : ∀ k, k ≠ w2.heap.size → (∀ v, w3.cell? ⟨w2.heap.size, 1, none⟩ = some v → v.ownBlock ≠ some k) → True := fun _ _ _ => trivial
  obtain ⟨u3, hu3⟩ : ∃ u3, u3 = w3.alloc (.cells #[.string ⟨#[115]⟩, .int .i64 0, .int .i64 0, .int .i64 8000, .int .i64 1000, .slice (some ar) 2 cr, .int .i64 60, .int .i64 40, .int .i64 1, .int .i64 100, .int .i64 10, .slice Ai 0 ci, .slice (some ab) 1 cb] 35) := ⟨_, rfl⟩
  obtain ⟨sb, hsb⟩ : ∃ sb, sb = w3.heap.size := ⟨_, rfl⟩
  rw [← hu3, ← hsb]
  have hST : u3.heap[sb]? = some (.cells #[.string ⟨#[115]⟩, .int .i64 0, .int .i64 0, .int .i64 8000, .int .i64 1000, .slice (some ar) 2 cr, .int .i64 60, .int .i64 40, .int .i64 1, .int .i64 100, .int .i64 10, .slice Ai 0 ci, .slice (some ab) 1 cb] 35 (0, 0)) := by rw [hu3, hsb]; exact al1 _ _
  have su3 : u3.heap.size = sb + 1 := by rw [hu3, hsb]; exact sz1 _ _
  have hk3 : ∀ k, k < w3.heap.size → u3.heap[k]? = w3.heap[k]? := fun k hk => by rw [hu3]; exact Below.heap_alloc _ _ _ hk
  replace hH := (hk3 w.heap.size (by omega)).trans hH
  replace hS := (hk3 (w.heap.size + 1) (by omega)).trans hS
  have hbuf : ∀ v, u3.cell? ⟨w2.heap.size, 1, none⟩ = some v → ∀ k, v.ownBlock = some k → w2.heap.size ≤ k ∧ k < sb := fun v hv k hk => by
    rw [hu3] at hv
    rw [hsb]
    exact buf_in hB3 (by rw [← hv]; exact (World.cell?_of_block (Below.heap_alloc _ _ _ (by show w2.heap.size < _; omega))).symm) hk
  have hBu := builder_below (w' := u3) hB3 (by rw [hu3]; exact bel1 _ _)
  have hwu : Below w.heap.size w u3 := by rw [hu3]; exact hw3.alloc (by omega) _
  have hsu : w2.heap.size + 4 ≤ u3.heap.size := by omega
  clear ks0 ks1 ks2 ks3 ks4 ks5 ks6 ks7 ks8 ks9 ks10 ks11 ks12 hH2 hH3 hw3 hB3 hu3 hsb hs2 hnb hk3
  have t0 : u3.cell? ⟨sb, 0, none⟩ = some (.string ⟨#[115]⟩) := by rw [Lib.cell_of_heap hST]; rfl
  have t1 : u3.cell? ⟨sb, 1, none⟩ = some (.int .i64 0) := by rw [Lib.cell_of_heap hST]; rfl
  have t2 : u3.cell? ⟨sb, 2, none⟩ = some (.int .i64 0) := by rw [Lib.cell_of_heap hST]; rfl
  have t3 : u3.cell? ⟨sb, 3, none⟩ = some (.int .i64 8000) := by rw [Lib.cell_of_heap hST]; rfl
  have t4 : u3.cell? ⟨sb, 4, none⟩ = some (.int .i64 1000) := by rw [Lib.cell_of_heap hST]; rfl
  have t5 : u3.cell? ⟨sb, 5, none⟩ = some (.slice (some ar) 2 cr) := by rw [Lib.cell_of_heap hST]; rfl
  have t6 : u3.cell? ⟨sb, 6, none⟩ = some (.int .i64 60) := by rw [Lib.cell_of_heap hST]; rfl
  have t7 : u3.cell? ⟨sb, 7, none⟩ = some (.int .i64 40) := by rw [Lib.cell_of_heap hST]; rfl
  have t8 : u3.cell? ⟨sb, 8, none⟩ = some (.int .i64 1) := by rw [Lib.cell_of_heap hST]; rfl
  have t9 : u3.cell? ⟨sb, 9, none⟩ = some (.int .i64 100) := by rw [Lib.cell_of_heap hST]; rfl
  have t10 : u3.cell? ⟨sb, 10, none⟩ = some (.int .i64 10) := by rw [Lib.cell_of_heap hST]; rfl
  obtain ⟨i0, hi, hz0, hz1, hz2⟩ := info_parts info3
  have hrw : ∀ W, Below w.heap.size w W → ∀ j u, [Value.int .i64 0, .int .i64 1000][j]? = some u → W.cell? (ar.add j) = some u := fun W hW j u hu => (hW.cell (World.block_lt_of_cell? w _ (hrows j u hu))).trans (hrows j u hu)
  have hGu : ∀ w', Below w2.heap.size u3 w' → Tab w' := fun w' h => hG w' (hwu.trans (h.mono (by omega)))
  have kS : ∀ W : World, W.heap[sb]? = u3.heap[sb]? → W.cell? ⟨sb, 0, none⟩ = some (.string ⟨#[115]⟩) ∧ W.cell? ⟨sb, 1, none⟩ = some (.int .i64 0) ∧ W.cell? ⟨sb, 2, none⟩ = some (.int .i64 0) ∧ W.cell? ⟨sb, 3, none⟩ = some (.int .i64 8000) ∧ W.cell? ⟨sb, 4, none⟩ = some (.int .i64 1000) ∧
      W.cell? ⟨sb, 5, none⟩ = some (.slice (some ar) 2 cr) ∧ W.cell? ⟨sb, 6, none⟩ = some (.int .i64 60) ∧ W.cell? ⟨sb, 7, none⟩ = some (.int .i64 40) ∧ W.cell? ⟨sb, 8, none⟩ = some (.int .i64 1) ∧ W.cell? ⟨sb, 9, none⟩ = some (.int .i64 100) ∧ W.cell? ⟨sb, 10, none⟩ = some (.int .i64 10) := fun W hW => by
    refine ⟨?_, ?_, ?_, ?_, ?_, ?_, ?_, ?_, ?_, ?_, ?_⟩ <;> (refine (World.cell?_of_block hW).trans ?_; assumption)
  have oA : ((u3.alloc WdO).alloc NmO).drew.ownsRow w2.heap.size 3 1 (.slice (some ⟨u3.heap.size + 1, 0, none⟩) 9 9) 9 (ns1.map (Value.int .i64)) := by
    have := own_lit (B := w2.heap.size) (u3.alloc WdO) ns1 9 rfl (by rw [sz1]; omega) (by decide)
    rw [sz1] at this
    exact this
  have oC : (u3.alloc NmO).drew.ownsRow w2.heap.size 3 1 (.slice (some ⟨u3.heap.size, 0, none⟩) 9 9) 9 (ns1.map (Value.int .i64)) := own_lit (B := w2.heap.size) u3 ns1 9 rfl (by omega) (by decide)
  have oB : ((u3.alloc NmO).alloc WdO).drew.ownsRow w2.heap.size 3 1 (.slice (some ⟨u3.heap.size, 0, none⟩) 9 9) 9 (ns1.map (Value.int .i64)) := World.ownsRow.alloc (w := (u3.alloc NmO)) oC WdO
  have zA : ((u3.alloc WdO).alloc NmO).drew.heap.size = u3.heap.size + 2 := sz2 _ _ _
  have zB : ((u3.alloc NmO).alloc WdO).drew.heap.size = u3.heap.size + 2 := sz2 _ _ _
  have zC : (u3.alloc NmO).drew.heap.size = u3.heap.size + 1 := sz1 _ _
  have bA : w2.heap.size ≤ ((u3.alloc WdO).alloc NmO).drew.heap.size := by rw [zA]; omega
  have bB : w2.heap.size ≤ ((u3.alloc NmO).alloc WdO).drew.heap.size := by rw [zB]; omega
  have bC : w2.heap.size ≤ (u3.alloc NmO).drew.heap.size := by rw [zC]; omega
  have nA := hrw ((u3.alloc WdO).alloc NmO).drew ((hwu.alloc (by omega) _).alloc (by rw [sz1]; omega) _).drew
  have nB := hrw ((u3.alloc NmO).alloc WdO).drew ((hwu.alloc (by omega) _).alloc (by rw [sz1]; omega) _).drew
  have nC := hrw (u3.alloc NmO).drew (hwu.alloc (by omega) _).drew
  have lB : w2.heap.size ≤ u3.heap.size := by omega
  have lL : ([] ++ Lib.byteCells (lineL [⟨#[104, 111, 117, 115, 101]⟩, ⟨#[104]⟩] [8000])).length ≤ 1000000 := by
    simp only [lineL, List.map_cons, List.map_nil, it8000]; decide
  have pA := set_A hBu lB hGu lL
  have pB := set_B hBu lB hGu lL
  have pC := set_C hBu lB hGu lL
  have on2 : ∀ u ∈ [Value.int .i64 0, Value.int .i64 1000], u.oneCell' = true := by simp [Value.oneCell']
  have sbl : sb < u3.heap.size := by omega
  have sbb : sb ≠ w2.heap.size := by omega
  have sbu : ∀ v, u3.cell? ⟨w2.heap.size, 1, none⟩ = some v → v.ownBlock ≠ some sb := fun v hv e => absurd (hbuf v hv sb e).2 (by omega)
  clear su3
  go_region_held3 (fun w' => w'.cell? ⟨sb, 0, none⟩ = some (.string ⟨#[115]⟩) ∧ w'.cell? ⟨sb, 1, none⟩ = some (.int .i64 0) ∧ w'.cell? ⟨sb, 2, none⟩ = some (.int .i64 0) ∧ w'.cell? ⟨sb, 3, none⟩ = some (.int .i64 8000) ∧ w'.cell? ⟨sb, 4, none⟩ = some (.int .i64 1000) ∧
      w'.cell? ⟨sb, 5, none⟩ = some (.slice (some ar) 2 cr) ∧ w'.cell? ⟨sb, 6, none⟩ = some (.int .i64 60) ∧ w'.cell? ⟨sb, 7, none⟩ = some (.int .i64 40) ∧ w'.cell? ⟨sb, 8, none⟩ = some (.int .i64 1) ∧ w'.cell? ⟨sb, 9, none⟩ = some (.int .i64 100) ∧ w'.cell? ⟨sb, 10, none⟩ = some (.int .i64 10))
    (first | go_keep | exact kS _ (hp4.block sb sbl) | exact kS _ (hf5 sb sbl sbb sbu))
    (first
      | (go_at_call 52; refine c4.mono ?_; rintro e w5 ⟨rfl, hB5, hb5, hs5, hf5⟩)
      | (refine step_append_lies _ (by rfl) _ _ _ (by rfl) w2.heap.size 3 i0 _ 1 8 Tryz.underlying31 hi hz0 hz1 hz2 rfl (by omega) (.slice (some ⟨u3.heap.size + 1, 0, none⟩) 9 9) 9 (ns1.map (Value.int .i64)) (by rfl) oA ar 2 cr [.int .i64 0, .int .i64 1000] (by rfl) (by rfl) nA on2 (by decide) (by decide) (by decide) bA (u3.heap.size + 2) zA ?_; intro g cap w4 hown4 hgrow4 hat4 hlt4; obtain ⟨hp4, c4⟩ := pA g cap w4 hown4 hgrow4 hat4)
      | (refine step_append_lies _ (by rfl) _ _ _ (by rfl) w2.heap.size 3 i0 _ 1 8 Tryz.underlying31 hi hz0 hz1 hz2 rfl (by omega) (.slice (some ⟨u3.heap.size, 0, none⟩) 9 9) 9 (ns1.map (Value.int .i64)) (by rfl) oB ar 2 cr [.int .i64 0, .int .i64 1000] (by rfl) (by rfl) nB on2 (by decide) (by decide) (by decide) bB (u3.heap.size + 2) zB ?_; intro g cap w4 hown4 hgrow4 hat4 hlt4; obtain ⟨hp4, c4⟩ := pB g cap w4 hown4 hgrow4 hat4)
      | (refine step_append_lies _ (by rfl) _ _ _ (by rfl) w2.heap.size 3 i0 _ 1 8 Tryz.underlying31 hi hz0 hz1 hz2 rfl (by omega) (.slice (some ⟨u3.heap.size, 0, none⟩) 9 9) 9 (ns1.map (Value.int .i64)) (by rfl) oC ar 2 cr [.int .i64 0, .int .i64 1000] (by rfl) (by rfl) nC on2 (by decide) (by decide) (by decide) bC (u3.heap.size + 1) zC ?_; intro g cap w4 hown4 hgrow4 hat4 hlt4; obtain ⟨hp4, c4⟩ := pC g cap w4 hown4 hgrow4 hat4))
  all_goals
    have hS5 := (hf5 (w.heap.size + 1) (by omega) (by omega) (fun v hv e => absurd (hbuf v hv _ e).1 (by omega))).trans hS
    have hT5 := (hf5 sb sbl sbb sbu).trans hST
    have hw5 : Below w.heap.size w w5 := hwu.trans (hb5.mono (by omega))
    have t11 : w5.cell? ⟨sb, 11, none⟩ = some (.slice Ai 0 ci) := by rw [Lib.cell_of_heap hT5]; rfl
    have t12 : w5.cell? ⟨sb, 12, none⟩ = some (.slice (some ab) 1 cb) := by rw [Lib.cell_of_heap hT5]; rfl
    clear pA pB pC oA oB oC zA zB zC nA nB nC bA bB bC kS hgrow4 hat4 hown4 c4 hp4 hlt4 t0 t1 t2 t3 t4 t5 t6 t7 t8 t9 t10 hrw
    go_wp2_with fail
    refine wp_loop_rounds 1 ?_
    rw [rounds_succ]
    go_wp2_with fail
    refine wp_loop_rounds 2 ?_
    rw [rounds_succ]
    have kb : ∀ j u, _ → w5.cell? (ab.add j) = some u := fun j v hv => (hw5.cell (World.block_lt_of_cell? w _ (hbrick j v hv))).trans (hbrick j v hv)
    have kb0 := kb 0 _ rfl
    have kb1 := kb 1 _ rfl
    have kb2 := kb 2 _ rfl
    rw [ad0'] at kb0
    rw [adS] at kb1
    rw [adS] at kb2
    clear kb
    go_wp2_with fail
    have hbw : Below w2.heap.size u3 (w5.alloc (.cells #[.string ⟨#[98]⟩, .int .i64 7, .int .i64 2] 86)) := hb5.alloc (by omega) _
    refine (line_lit (u := w5.alloc (.cells #[.string ⟨#[98]⟩, .int .i64 7, .int .i64 2] 86)) [⟨#[98, 114, 105, 99, 107]⟩, ⟨#[98]⟩] [7, 2] _ _ _ _ (sz1 _ _).symm (by rw [sz1]) rfl rfl (builder_below hB5 (bel1 _ _)) (by rw [sz1]; omega) (fun w' h => hGu w' (hbw.trans h)) (by decide) (by decide) (by decide) tl3 lL2).mono ?_
    rintro e w6 ⟨rfl, hB6, hb6, hs6, hf6⟩
    rw [sz1] at hs6
    have hc5 : ∀ v, (w5.alloc (.cells #[.string ⟨#[98]⟩, .int .i64 7, .int .i64 2] 86)).cell? ⟨w2.heap.size, 1, none⟩ = some v → ∀ k, v.ownBlock = some k → w2.heap.size ≤ k := fun v hv k hk => (buf_in (builder_below hB5 (bel1 w5 _)) hv hk).1
    have hS6 := (hf6 (w.heap.size + 1) (by rw [sz1]; omega) (by omega) (fun v hv e => absurd (hc5 v hv _ e) (by omega))).trans ((Below.heap_alloc _ _ _ (by omega)).trans hS5)
    have hw6 : Below w.heap.size w w6 := hwu.trans ((hbw.trans hb6).mono (by omega))
    have t60 : w6.cell? ⟨w.heap.size + 1, 0, none⟩ = some (.slice A3 0 c3) := by rw [Lib.cell_of_heap hS6]; rfl
    have t61 : w6.cell? ⟨w.heap.size + 1, 1, none⟩ = some (.slice A4 0 c4x) := by rw [Lib.cell_of_heap hS6]; rfl
    clear kb0 kb1 kb2 t11 t12 hb6 hbw hc5
    go_wp2_with fail
    rw [rounds_succ]
    go_wp2_with fail
    rw [rounds_succ]
    go_wp2_with fail
    refine wp_loop_rounds 1 ?_
    rw [rounds_succ]
    go_wp2_with fail
    refine wp_loop_rounds 1 ?_
    rw [rounds_succ]
    go_wp2_with fail
    have hB7 : Lib.IsBuilder 108 5 w2.heap.size w2.heap.size (Lib.byteCells txt) w6 := by rw [← txt_eq]; exact hB6
    refine (len_ok hB7).mono ?_
    rintro e w7 ⟨rfl, rfl⟩
    rw [txt_len]
    go_wp2_with fail
    refine (str_ok txt hB7 txt_ne).mono ?_
    rintro e w8 ⟨rfl, hb8⟩
    go_wp2_with fail
    go_ret2
    exact ⟨rfl, hw6.trans (hb8.mono (by omega))⟩
end Go.Proofs.YtlfdhaiigdllcaaGreatDoor
