/- toph: (*source.writer).line: words and numbers as a line behind what the builder holds. -/
import Derived.Shelf.Strconv.Itoa3
import Derived.Shelf.Abstract
import Derived.Ground.NamesProg
import Derived.Shelf.Strings.OnBuilder
import Derived.Maps.AppendAt
import Derived.Lib.AppendIntMem
import Derived.Lib.SmallJoins
import Derived.LoopTactic
import Derived.Deep.RegionHeld3
import Derived.Deep.DrawnRows
import Derived.Laws.Concat
import Derived.Test.YtlfdhaiigdllcaaGreatDoorMgP

namespace Go.Proofs.YtlfdhaiigdllcaaGreatDoor
open Tryz Go.RowKit Go.Shelf

def laysItoa_ren : Go.Shelf.Ren := ⟨fun | 171 => 92 | 243 => 126 | 246 => 137 | 283 => 142 | 284 => 143 | 285 => 144 | 286 => 145 | 129 => 141 | 317 => 147 | 318 => 148 | 319 => 149 | 320 => 150 | 337 => 151 | 338 => 152 | n => n, fun | 3 => 3 | 9 => 9 | 2 => 2 | 4 => 4 | 171 => 196 | 0 => 0 | 53 => 132 | 37 => 104 | 5 => 5 | 173 => 198 | 212 => 202 | 51 => 193 | 20 => 20 | 213 => 203 | 46 => 185 | 232 => 206 | 233 => 207 | n => n, fun | 17 => 2 | 18 => 4 | 19 => 5 | n => n⟩
theorem laysItoa : Go.Proofs.LaysM.n171 Tryz.prog laysItoa_ren where
  mixed := by kernel_rfl
  f129 := Tryz.func141.trans (congrArg some (by kernel_rfl))
  f171 := Tryz.func92.trans (congrArg some (by kernel_rfl))
  f243 := Tryz.func126.trans (congrArg some (by kernel_rfl))
  f246 := Tryz.func137.trans (congrArg some (by kernel_rfl))
  f283 := Tryz.func142.trans (congrArg some (by kernel_rfl))
  f284 := Tryz.func143.trans (congrArg some (by kernel_rfl))
  f285 := Tryz.func144.trans (congrArg some (by kernel_rfl))
  f286 := Tryz.func145.trans (congrArg some (by kernel_rfl))
  f317 := Tryz.func147.trans (congrArg some (by kernel_rfl))
  f318 := Tryz.func148.trans (congrArg some (by kernel_rfl))
  f319 := Tryz.func149.trans (congrArg some (by kernel_rfl))
  f320 := Tryz.func150.trans (congrArg some (by kernel_rfl))
  f337 := Tryz.func151.trans (congrArg some (by kernel_rfl))
  f338 := Tryz.func152.trans (congrArg some (by kernel_rfl))
  t0 := Tryz.underlying0
  a0 := Tryz.isAgg0
  z0 := Tryz.sizeOf0
  v0 := Tryz.zeroValue0
  t2 := Tryz.underlying2
  a2 := Tryz.isAgg2
  z2 := Tryz.sizeOf2
  v2 := Tryz.zeroValue2
  t3 := Tryz.underlying3
  a3 := Tryz.isAgg3
  z3 := Tryz.sizeOf3
  v3 := Tryz.zeroValue3
  t4 := Tryz.underlying4
  a4 := Tryz.isAgg4
  z4 := Tryz.sizeOf4
  v4 := Tryz.zeroValue4
  t5 := Tryz.underlying5
  a5 := Tryz.isAgg5
  z5 := Tryz.sizeOf5
  v5 := Tryz.zeroValue5
  t9 := Tryz.underlying9
  a9 := Tryz.isAgg9
  z9 := Tryz.sizeOf9
  v9 := Tryz.zeroValue9
  t20 := Tryz.underlying20
  a20 := Tryz.isAgg20
  z20 := Tryz.sizeOf20
  v20 := Tryz.zeroValue20
  t37 := Tryz.underlying104
  a37 := Tryz.isAgg104
  z37 := Tryz.sizeOf104
  v37 := Tryz.zeroValue104
  t46 := Tryz.underlying185
  a46 := Tryz.isAgg185
  z46 := Tryz.sizeOf185
  v46 := Tryz.zeroValue185
  t51 := Tryz.underlying193
  a51 := Tryz.isAgg193
  z51 := Tryz.sizeOf193
  v51 := Tryz.zeroValue193
  t53 := Tryz.underlying132
  a53 := Tryz.isAgg132
  z53 := Tryz.sizeOf132
  v53 := Tryz.zeroValue132
  t171 := Tryz.underlying196
  a171 := Tryz.isAgg196
  z171 := Tryz.sizeOf196
  v171 := Tryz.zeroValue196
  t173 := Tryz.underlying198
  a173 := Tryz.isAgg198
  z173 := Tryz.sizeOf198
  v173 := Tryz.zeroValue198
  t212 := Tryz.underlying202
  a212 := Tryz.isAgg202
  z212 := Tryz.sizeOf202
  v212 := Tryz.zeroValue202
  t213 := Tryz.underlying203
  a213 := Tryz.isAgg203
  z213 := Tryz.sizeOf203
  t232 := Tryz.underlying206
  a232 := Tryz.isAgg206
  z232 := Tryz.sizeOf206
  v232 := Tryz.zeroValue206
  t233 := Tryz.underlying207
  a233 := Tryz.isAgg207
  z233 := Tryz.sizeOf207
  v233 := Tryz.zeroValue207
  g17 := by kernel_rfl
  g18 := by kernel_rfl
  g19 := by kernel_rfl
  i0 := by kernel_rfl
  i2 := by kernel_rfl
  i3 := by kernel_rfl
  i4 := by kernel_rfl
  i5 := by kernel_rfl
  i9 := by kernel_rfl
  i20 := by kernel_rfl
  i37 := by kernel_rfl
  i46 := by kernel_rfl
  i51 := by kernel_rfl
  i53 := by kernel_rfl
  i171 := by kernel_rfl
  i173 := by kernel_rfl
  i212 := by kernel_rfl
  i232 := by kernel_rfl
  i233 := by kernel_rfl
  m17 := by kernel_rfl
  m18 := by kernel_rfl
  m19 := by kernel_rfl
def laysJoin_ren : Go.Shelf.Ren := ⟨fun | 156 => 94 | 165 => 128 | 166 => 93 | 169 => 54 | 240 => 127 | 241 => 139 | 276 => 138 | 277 => 146 | n => n, fun | 31 => 110 | 9 => 9 | 3 => 3 | 4 => 4 | 0 => 0 | 20 => 20 | 72 => 106 | 76 => 151 | 70 => 103 | 37 => 104 | 75 => 150 | 127 => 154 | 164 => 191 | 5 => 5 | 80 => 117 | n => n, fun | n => n⟩
theorem laysJoin : Go.Proofs.Lays.n156 Tryz.prog laysJoin_ren where
  mixed := by kernel_rfl
  f156 := Tryz.func94.trans (congrArg some (by kernel_rfl))
  f165 := Tryz.func128.trans (congrArg some (by kernel_rfl))
  f166 := Tryz.func93.trans (congrArg some (by kernel_rfl))
  f169 := Tryz.func54.trans (congrArg some (by kernel_rfl))
  f240 := Tryz.func127.trans (congrArg some (by kernel_rfl))
  f241 := Tryz.func139.trans (congrArg some (by kernel_rfl))
  f276 := Tryz.func138.trans (congrArg some (by kernel_rfl))
  f277 := Tryz.func146.trans (congrArg some (by kernel_rfl))
  t0 := Tryz.underlying0
  a0 := Tryz.isAgg0
  z0 := Tryz.sizeOf0
  v0 := Tryz.zeroValue0
  t3 := Tryz.underlying3
  a3 := Tryz.isAgg3
  z3 := Tryz.sizeOf3
  v3 := Tryz.zeroValue3
  t4 := Tryz.underlying4
  a4 := Tryz.isAgg4
  z4 := Tryz.sizeOf4
  v4 := Tryz.zeroValue4
  t9 := Tryz.underlying9
  a9 := Tryz.isAgg9
  z9 := Tryz.sizeOf9
  v9 := Tryz.zeroValue9
  t20 := Tryz.underlying20
  a20 := Tryz.isAgg20
  z20 := Tryz.sizeOf20
  v20 := Tryz.zeroValue20
  t31 := Tryz.underlying110
  a31 := Tryz.isAgg110
  z31 := Tryz.sizeOf110
  v31 := Tryz.zeroValue110
  t37 := Tryz.underlying104
  a37 := Tryz.isAgg104
  z37 := Tryz.sizeOf104
  v37 := Tryz.zeroValue104
  t70 := Tryz.underlying103
  a70 := Tryz.isAgg103
  z70 := Tryz.sizeOf103
  v70 := Tryz.zeroValue103
  t72 := Tryz.underlying106
  a72 := Tryz.isAgg106
  z72 := Tryz.sizeOf106
  v72 := Tryz.zeroValue106
  t75 := Tryz.underlying150
  a75 := Tryz.isAgg150
  z75 := Tryz.sizeOf150
  v75 := Tryz.zeroValue150
  t76 := Tryz.underlying151
  a76 := Tryz.isAgg151
  z76 := Tryz.sizeOf151
  v76 := Tryz.zeroValue151
  t127 := Tryz.underlying154
  a127 := Tryz.isAgg154
  z127 := Tryz.sizeOf154
  v127 := Tryz.zeroValue154
  t164 := Tryz.underlying191
  a164 := Tryz.isAgg191
  z164 := Tryz.sizeOf191
  v164 := Tryz.zeroValue191

abbrev Tab (w : World) : Prop := Lib.TabIs prog w "internal/strconv.uint64pow10" .u64 Lib.pow10Tab
abbrev IT (n : Int) : ByteArray := ⟨(Lib.itoa n).toArray⟩

theorem itoa_ok (n : Int) (h0 : -9223372036854775808 ≤ n) (h1 : n ≤ 9223372036854775807) (w : World) (htab : Tab w) :
    Calls prog 92 #[.int .i64 n] w fun e w' => e = .returned (.string (IT n)) ∧ Below w.heap.size w w' :=
  (Any.strconv_Itoa laysItoa n h0 h1 w htab).mono fun e w' ⟨he, k, os, hw⟩ => ⟨he, by rw [hw]; exact Lib.below_grow _ _ (Nat.le_refl _) _ _⟩

theorem extra : Builder.Extra prog laysJoin_ren where
  sizeBuilder := by kernel_rfl
  liesBuilder := by kernel_rfl
  t5 := Tryz.underlying5
  a5 := Tryz.isAgg5
  z5 := Tryz.sizeOf5
  v5 := Tryz.zeroValue5
  infoByte := by kernel_rfl
  cellsByte := by kernel_rfl
  sizeByte := by kernel_rfl
  neB5 := by decide

abbrev joinL (xs : List ByteArray) : List UInt8 := Lib.join (xs.map (·.data.toList)) [32]
theorem join_ok (bk o c n : Nat) (xs : List ByteArray) (hn : xs.length = n) (w : World) (hcells : ∀ (j : Nat) x, xs[j]? = some x → w.cell? ⟨bk, o + j, none⟩ = some (.string x)) (hbk : bk < w.heap.size) (hN : xs.length ≤ 1000) (hcap : xs.length ≤ c) (hlen : (joinL xs).length ≤ 1000000) :
    Calls prog 94 #[.slice (some ⟨bk, o, none⟩) n c, .string ⟨#[32]⟩] w fun e w' => e = .returned (.string ⟨(joinL xs).toArray⟩) ∧ Below w.heap.size w w' :=
  hn ▸ Any.strings_Join laysJoin extra bk o c xs ⟨#[32]⟩ w hcells hbk (by omega) hcap (by show (joinL xs).length ≤ _; omega)

theorem info9 : (prog.info? 9).map (fun i => (i.zero, i.size, i.bytes)) = some (some (.string ⟨#[]⟩), 1, 16) := by kernel_rfl

/-- The text of a line. -/
def lineL (ws : List ByteArray) (ns : List Int) : List UInt8 := joinL (ws ++ ns.map IT) ++ [10]

theorem add0 (g j : Nat) : (⟨g, 0, none⟩ : Addr).add j = ⟨g, j, none⟩ := by unfold Addr.add; split <;> simp_all
theorem builder_kept {B b : Nat} {bs : List Value} {w w' : World} {r : Option Nat} (h : Lib.IsBuilder 108 5 B b bs w) (hg : w.grownBy w' r) (hb : some b ≠ r) (hu : ∀ v, w.cell? ⟨b, 1, none⟩ = some v → v.ownBlock = none ∨ v.ownBlock ≠ r) : Lib.IsBuilder 108 5 B b bs w' := by
  have one : ∀ p, Lib.BuilderAt 108 5 B b p bs w → Lib.BuilderAt 108 5 B b p bs w' := fun p hp => by
    have hlt := hp.lt
    obtain ⟨hB, v, hbk, hown, hne⟩ := hp
    exact ⟨hB, v, (hg.block b hlt hb).trans hbk, hown.kept hg (hu v (by rw [Lib.cell_of_heap hbk]; rfl)), hne⟩
  exact h.imp (one _) (one _)
theorem builder_below {B b : Nat} {bs : List Value} {w w' : World} (h : Lib.IsBuilder 108 5 B b bs w) (hb : Below w.heap.size w w') : Lib.IsBuilder 108 5 B b bs w' :=
  builder_kept (r := none) h ⟨hb.os, hb.tape, hb.output, hb.size, fun k hk _ => hb.block k hk⟩ (by simp) fun v _ => by cases v.ownBlock <;> simp
theorem grown_refl (w : World) (r : Option Nat) : w.grownBy w r := ⟨rfl, rfl, rfl, Nat.le_refl _, fun _ _ _ => rfl⟩
theorem grown_below {w w' : World} {r : Option Nat} (h : Below w.heap.size w w') : w.grownBy w' r := ⟨h.os, h.tape, h.output, h.size, fun k hk _ => h.block k hk⟩

set_option maxHeartbeats 2000000
set_option maxRecDepth 100000
theorem line_ok {B b : Nat} {bs : List Value} {w : World} (ws : List ByteArray) (ns : List Int) (bk nb no nc : Nat)
    (h : Lib.IsBuilder 108 5 B b bs w) (hBw : B ≤ w.heap.size) (hG : ∀ w', Below B w w' → Tab w')
    (hws : w.heap[bk]? = some (.cells (ws.map Value.string).toArray 9 (0, 0))) (hw0 : 0 < ws.length) (hBk : B ≤ bk) (hbb : bk ≠ b) (hbu : ∀ v, w.cell? ⟨b, 1, none⟩ = some v → v.ownBlock ≠ some bk)
    (hns : ∀ (j : Nat) n, ns[j]? = some n → w.cell? ⟨nb, no + j, none⟩ = some (.int .i64 n)) (hnb : nb ≠ bk) (hnlt : nb < w.heap.size)
    (hrange : ∀ n ∈ ns, -9223372036854775808 ≤ n ∧ n ≤ 9223372036854775807) (hlen : ws.length + ns.length ≤ 1000) (hL : (joinL (ws ++ ns.map IT)).length ≤ 1000000) (hbs : bs.length ≤ 1000000) :
    Calls prog 52 #[.pointer (some ⟨b, 0, none⟩), .slice (some ⟨bk, 0, none⟩) ws.length ws.length, .slice (some ⟨nb, no, none⟩) ns.length nc] w fun e w' =>
      e = .returned (.tuple #[]) ∧ Lib.IsBuilder 108 5 B b (bs ++ Lib.byteCells (lineL ws ns)) w' ∧ Below B w w' ∧ w.heap.size ≤ w'.heap.size ∧ ∀ k, k < w.heap.size → k ≠ b → k ≠ bk → (∀ v, w.cell? ⟨b, 1, none⟩ = some v → v.ownBlock ≠ some k) → w'.heap[k]? = w.heap[k]? := by
  obtain ⟨i0, hi, hz0, hz1, hz2⟩ := info_parts info9
  have hbk : bk < w.heap.size := (Array.getElem?_eq_some_iff.1 hws).1
  go_enter Tryz.func52, Tryz.ntmps52
  go_wp2
  go_loopw [1, 10] (fun v i wr => ∃ k : Nat, k ≤ ns.length ∧ i = .int .i64 k ∧ wr.ownsRow B 9 1 v (ws.length + k) ((ws ++ (ns.take k).map IT).map Value.string) ∧ w.grownBy wr (some bk) ∧ (v.ownBlock = some bk ∨ ∃ g, v.ownBlock = some g ∧ w.heap.size ≤ g))
    (fun _ i _ => ns.length - (intOf i).toNat)
  case atStart =>
    refine ⟨0, Nat.zero_le _, rfl, ?_, grown_refl w _, .inl rfl⟩
    refine ⟨by simp, .inr ⟨bk, ws.length, (ws.map Value.string).toArray, by simp, hBk, hws, by omega, by unfold maxLen; omega, by simp, by simp [List.take_of_length_le]⟩⟩
  case round =>
    obtain ⟨k, hk, rfl, hown, hgr, hvb⟩ := hrel
    have hBwr : Below B w wr := (Below.refl B w).grown hgr hBw (fun k hk => by cases hk; exact hBk)
    have hsz := hgr.size
    by_cases hlt : k < ns.length
    · have hn : ns[k]? = some ns[k] := List.getElem?_eq_getElem hlt
      have hr := hrange ns[k] (List.getElem_mem hlt)
      have hcx : wr.cell? ⟨nb, no + k, none⟩ = some (.int .i64 ns[k]) := hgr.cell (hns k _ hn) (by simpa using hnb)
      have hlt' : (k : Int) < (ns.length : Int) := by omega
      go_wp2_with (go_at_call 92; refine (itoa_ok ns[k] hr.1 hr.2 _ (hG _ hBwr)).mono ?_)
      rintro e w1 ⟨rfl, hb1⟩
      have hne : u1.ownBlock ≠ none := by
        rcases hvb with h | ⟨g, h, _⟩ <;> simp [h]
      have hown1 := (hown.kept (grown_below (r := none) hb1) (.inr hne)).alloc (.cells #[.string (IT ns[k])] 9)
      go_wp2_with (at_builtin; refine wpList_append_own_at _ rfl _ _ 110 rfl B 9 i0 (.string ⟨#[]⟩) 1 16 Tryz.underlying110 hi hz0 hz1 hz2 rfl (by decide) _ _ _ rfl hown1 ⟨w1.heap.size, 0, none⟩ 1 1 [.string (IT ns[k])] rfl rfl ?c1 ?c2 ?c3 ?c4 ?c5 ?_)
      case c1 =>
        intro j u hj
        match j, hj with
        | 0, hj => simp at hj; subst hj; simp [Addr.add]
      case c2 => intro u hu; simp at hu; subst hu; rfl
      case c3 => unfold maxLen; omega
      case c4 => omega
      case c5 => have := hb1.size; simp; omega
      intro v' w2 hown' hgrow _ hat
      have hs1 := hb1.size
      have hgr2 : w.grownBy w2 (some bk) := by
        refine ⟨by rw [hgrow.os]; exact hb1.os.trans hgr.os, by rw [hgrow.tape]; exact hb1.tape.trans hgr.tape, by rw [hgrow.output]; exact hb1.output.trans hgr.output, by have := hgrow.size; simp at this; omega, fun j hj hne => ?_⟩
        rw [hgrow.block j (by simp; omega) (by rcases hvb with h | ⟨g, h, hg⟩ <;> rw [h]; exact hne; simp; omega), Below.heap_alloc w1 _ j (by omega), hb1.block j (by omega), hgr.block j hj hne]
      have hvb2 : v'.ownBlock = some bk ∨ ∃ g, v'.ownBlock = some g ∧ w.heap.size ≤ g := by
        rcases hat with h | h
        · rw [h]; exact hvb
        · exact .inr ⟨_, h, by first | omega | (simp; omega)⟩
      have hown2 : w2.ownsRow B 9 1 v' (ws.length + (k + 1)) ((ws ++ (ns.take (k + 1)).map IT).map Value.string) := by
        have e : (ws ++ (ns.take (k + 1)).map IT).map Value.string = (ws ++ (ns.take k).map IT).map Value.string ++ [.string (IT ns[k])] := by
          rw [List.take_add_one, hn, Option.toList_some]; simp only [List.map_append, List.append_assoc, List.map_cons, List.map_nil]
        rw [e, ← Nat.add_assoc]
        simpa [List.map_append, List.map_take, List.append_assoc] using hown'
      clear hown' hgrow hown hown1 hgr hvb hat
      go_wp2
      go_roundw
      case rel => exact ⟨k + 1, by omega, by simp, hown2, hgr2, hvb2⟩
      case measure => simp [intOf]; omega
    · obtain rfl : k = ns.length := by omega
      rw [List.take_length] at hown
      have hadd : ∀ w, (Op.stringOp .add ⟨(joinL (ws ++ ns.map IT)).toArray⟩ ⟨#[10]⟩).run prog w = .ok (.string ⟨(lineL ws ns).toArray⟩) w := fun w => by
        rw [run_string_add_sum w _ _ (by simp [ByteArray.size]; omega)]
        simp [lineL, ByteArray.mk_append_mk]
      obtain ⟨g, cap, rfl, hg1, hg2, hcap, hcells⟩ : ∃ g cap, u1 = .slice (some ⟨g, 0, none⟩) (ws.length + ns.length) cap ∧ (g = bk ∨ w.heap.size ≤ g) ∧ g < wr.heap.size ∧ ws.length + ns.length ≤ cap ∧ ∀ (j : Nat) x, (ws ++ ns.map IT)[j]? = some x → wr.cell? ⟨g, 0 + j, none⟩ = some (.string x) := by
        have hc := fun g hg => hown.cells (g := g) hg
        rcases hown.2 with ⟨_, h0⟩ | ⟨g, cap, cur, hv, hBg, hgg, hcc, _⟩
        · omega
        · refine ⟨g, cap, hv, ?_, (Array.getElem?_eq_some_iff.1 hgg).1, hcc, fun j x hx => ?_⟩
          · rcases hvb with h | ⟨g', h, hg'⟩ <;> (rw [hv] at h; simp [Value.ownBlock] at h)
            · exact .inl h
            · exact .inr (by omega)
          · have := hc g (by rw [hv]; rfl) j (.string x) (by rw [List.getElem?_map, hx]; rfl)
            rw [add0] at this
            rw [Nat.zero_add]
            exact this
      have hB : Lib.IsBuilder 108 5 B b bs wr := builder_kept h hgr (by simpa using hbb.symm) fun v hv => .inr (hbu v hv)
      go_wp2
      have hBs : B ≤ wr.heap.size := by omega
      have hstr : (Lib.strCells ⟨(lineL ws ns).toArray⟩) = Lib.byteCells (lineL ws ns) := rfl
      have hls : (lineL ws ns).length ≤ 1000001 := by simp [lineL]; omega
      have hj := join_ok g 0 cap (ws.length + ns.length) (ws ++ ns.map IT) (by simp) wr.drew hcells hg2 (by simp; omega) (by simp; omega) hL
      have hwk : ∀ w1, Below wr.drew.heap.size wr.drew w1 → Calls prog 93 #[.pointer (some ⟨b, 0, none⟩), .string ⟨(lineL ws ns).toArray⟩] w1 fun e w2 => ∃ v, e = .returned v ∧ Lib.IsBuilder 108 5 B b (bs ++ Lib.byteCells (lineL ws ns)) w2 ∧ Below B w w2 ∧ w.heap.size ≤ w2.heap.size ∧ ∀ k, k < w.heap.size → k ≠ b → k ≠ bk → (∀ v, w.cell? ⟨b, 1, none⟩ = some v → v.ownBlock ≠ some k) → w2.heap[k]? = w.heap[k]? := fun w1 hb1 => by
        have hB1 : Lib.IsBuilder 108 5 B b bs w1 := builder_below (w := wr.drew) hB hb1
        have hs1 : wr.heap.size ≤ w1.heap.size := hb1.size
        have hbw1 : Below B w w1 := (hBwr.trans (Below.drew (Below.refl B wr))).trans (hb1.mono (by exact hBs))
        refine (ws_ok _ hB1 (by show _ + Array.size _ ≤ _; simp; omega) (by omega)).mono ?_
        rintro e w2 ⟨rfl, hb2, hb3, hb4, hb5⟩
        refine ⟨_, rfl, .inr hb2, hbw1.trans hb3, by omega, fun k hk hkb hkk hku => ?_⟩
        have hbl : b < w.heap.size := h.elim (fun h => h.lt) (fun h => h.lt)
        have e1 : w1.heap[b]? = w.heap[b]? := (hb1.block b (by show b < wr.heap.size; omega)).trans (hgr.block b hbl (by simpa using hbb.symm))
        rw [hb5 k (by omega) hkb (fun v hv => hku v (by rw [World.cell?_of_block e1.symm]; exact hv)), hb1.block k (by show k < wr.heap.size; omega)]
        exact hgr.block k hk (by simpa using hkk)
      go_region_with (first
        | (go_at_call 94; refine hj.mono ?_; rintro e w1 ⟨rfl, hb1⟩)
        | (go_at_call 93; refine (hwk _ hb1).mono ?_; rintro e w2 ⟨v, rfl, hf1, hf2, hf3, hf4⟩))
      all_goals (go_end0; exact ⟨rfl, hf1, hf2, hf3, hf4⟩)
end Go.Proofs.YtlfdhaiigdllcaaGreatDoor
