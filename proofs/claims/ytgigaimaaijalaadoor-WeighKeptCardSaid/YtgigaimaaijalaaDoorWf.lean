/- The table's at as a native: what its calls come to, the first time and again. -/
import Derived.Test.YtgigaimaaijalaaDoorWe
set_option linter.unusedSimpArgs false
set_option linter.unusedVariables false
namespace Go.Proofs.YtgigaimaaijalaaDoor
open Go Go.Proofs.R
theorem cell_of {w : World} {g i : Nat} {arr : Array Value} {T : TypeId} {z : Nat × Nat} {v : Value} (h : w.heap[g]? = some (.cells arr T z)) (hv : arr[i]? = some v) : w.cell? ⟨g, i, none⟩ = some v := by
  simp [World.cell?, h, hv]
theorem frozen_of {w : World} {g i : Nat} {arr : Array Value} {T : TypeId} (h : w.heap[g]? = some (.cells arr T (0, 0))) : w.frozen? ⟨g, i, none⟩ = false := by
  simp [World.frozen?, h]
theorem heap_set {w : World} {g i : Nat} {v : Value} {arr : Array Value} {T : TypeId} {z : Nat × Nat} (h : w.heap[g]? = some (.cells arr T z)) : (w.setCell ⟨g, i, none⟩ v).heap[g]? = some (.cells (arr.setIfInBounds i v) T z) := by
  simp [World.setCell, Array.getElem?_modify, h]
theorem heap_set_ne {w : World} {g i k : Nat} {v : Value} (h : k ≠ g) : (w.setCell ⟨g, i, none⟩ v).heap[k]? = w.heap[k]? := by
  simp only [World.setCell, Array.getElem?_modify]
  rw [if_neg (by omega)]
theorem os_set {w : World} {a : Addr} {v : Value} : (w.setCell a v).os = w.os := rfl
theorem tape_set {w : World} {a : Addr} {v : Value} : (w.setCell a v).tape = w.tape := rfl
theorem output_set {w : World} {a : Addr} {v : Value} : (w.setCell a v).output = w.output := rfl
theorem os_drew {w : World} : w.drew.os = w.os := rfl
theorem tape_drew {w : World} : w.drew.tape = w.tape := rfl
theorem output_drew {w : World} : w.drew.output = w.output := rfl
theorem heap_drew {w : World} : w.drew.heap = w.heap := rfl
/-- What is read of a row of two cells each. -/
theorem rd_pair {w : World} {O : Cells} {l : List D} {y : Value} (h : rd w O (.sl 2 l) y) {n : Nat} {nb : Bool} {r : List D} (h0 : l[2 * n]? = some (.bool nb)) (h1 : l[2 * n + 1]? = some (.sl 1 r)) :
    ∃ fb fo fl fc sa sl sc, y = .slice (some ⟨fb, fo, none⟩) fl fc ∧ n < fl ∧ ¬ O fb (fo + n * 2) ∧ w.cell? ⟨fb, fo + n * 2, none⟩ = some (.bool nb) ∧ w.cell? ⟨fb, fo + n * 2 + 1, none⟩ = some (.slice sa sl sc) ∧ rd w O (.sl 1 r) (.slice sa sl sc) := by
  simp only [rd] at h
  obtain ⟨a, fl, fc, rfl, -, -, hl, hr⟩ := h
  have hlen : 2 * n + 1 < l.length := by
    rcases Nat.lt_or_ge (2 * n + 1) l.length with h | h
    · exact h
    · rw [List.getElem?_eq_none h] at h1; cases h1
  rcases hr with hr | ⟨fb, fo, rfl, hr⟩
  · subst hr; simp at hlen
  · have hat := At.of_rdC hr
    obtain ⟨-, y0, c0, d0⟩ := hat _ _ h0
    obtain ⟨-, y1, c1, d1⟩ := hat _ _ h1
    have hn := rdC_not hr (2 * n) (by omega)
    simp only [rd] at d0
    subst d0
    have d1' := d1
    simp only [rd] at d1
    obtain ⟨sa, sl, sc, rfl, -⟩ := d1
    rw [show fo + 2 * n = fo + n * 2 by omega] at c0 hn
    rw [show fo + (2 * n + 1) = fo + n * 2 + 1 by omega] at c1
    exact ⟨fb, fo, fl, fc, sa, sl, sc, rfl, by omega, hn, c0, c1, d1'⟩
theorem Ow_none {O0 : Outs} {m : Nat → Option (Nat × Nat)} {g i : Nat} : Ow O0 m [] g i ↔ O0 g i := by
  constructor
  · rintro (h | ⟨b, B, s, h, _⟩)
    · exact h
    · cases h
  · exact .inl
theorem aget_zero {B : Blk} {H : Mem} : aget ((0, B) :: H) 0 = some B := by simp [aget]
theorem aget_suc {B : Blk} {H : Mem} {b : Nat} (h : b ≠ 0) : aget ((0, B) :: H) b = aget H b := by simp only [aget]; rw [if_neg (fun e => h e.symm)]
theorem Ow_own {O0 : Outs} {m : Nat → Option (Nat × Nat)} {B : Blk} {H : Mem} {g s : Nat} (hm : m 0 = some (g, s)) (hp : B.pub = 0) {i : Nat} : Ow O0 m ((0, B) :: H) g i := .inr ⟨0, B, s, aget_zero, hm, by omega⟩
theorem Ow_swap {O0 : Outs} {m : Nat → Option (Nat × Nat)} {B B' : Blk} {H : Mem} (hp : B.pub = B'.pub) {k i : Nat} : Ow O0 m ((0, B) :: H) k i → Ow O0 m ((0, B') :: H) k i := by
  rintro (h | ⟨b, C, s, h, h1, h2⟩)
  · exact .inl h
  · refine .inr ?_
    by_cases e : b = 0
    · subst e
      rw [aget_zero] at h
      cases h
      exact ⟨0, B', s, aget_zero, h1, by omega⟩
    · rw [aget_suc e] at h
      exact ⟨b, C, s, by rw [aget_suc e]; exact h, h1, h2⟩
theorem low_one {m : Nat → Option (Nat × Nat)} {B B' : Blk} {H : Mem} : ∀ b, 1099511627775 ≤ b → aget ((0, B') :: H) b = aget ((0, B) :: H) b ∧ m b = m b := fun b hb => ⟨by rw [aget_suc (by omega), aget_suc (by omega)], rfl⟩
/-- The four cells of a table. -/
def tabB (d : Int) (s x : D) : Blk := ⟨0, true, [.int .u32 d, .int .i32 0, s, x]⟩
set_option maxRecDepth 100000 in
theorem at_ok_again {o : Obj} {H : Mem} (d : Int) (hd : ¬ d = 0) (s : D) (l : List D) (n : Nat) (nb : Bool) (r : List D) (h0 : l[2 * n]? = some (.bool nb)) (h1 : l[2 * n + 1]? = some (.sl 1 r)) :
    CallOK Tryd.prog [(0, o)] 23 [.ptr 0 0, .d (.int .i64 (n : Int))] ((0, tabB d s (.sl 2 l)) :: H) (.d (.ag [.bool nb, .sl 1 r])) ((0, tabB d s (.sl 2 l)) :: H) := by
  intro O0 m ys w hargs hfix hblks hO hsays hbase hheap
  obtain ⟨y0, t0, rfl, hy0, y1, t1, rfl, hy1, rfl⟩ := hargs
  obtain ⟨g, sz, hm, rfl⟩ := hy0
  obtain rfl : y1 = .int .i64 (n : Int) := hy1
  obtain ⟨-, hg, hs, arr, T, hw, ha, hr⟩ := hblks.blk 0 _ aget_zero g sz hm
  simp only [tabB, List.length_cons, List.length_nil] at hs
  obtain ⟨-, v0, c0, d0⟩ := hr 0 (.int .u32 d) rfl
  obtain ⟨-, v3, c3, d3⟩ := hr 3 (.sl 2 l) rfl
  obtain rfl : v0 = .int .u32 d := d0
  obtain ⟨fb, fo, fl, fc, sa, sl, sc, rfl, hn, -, hx, hy, hz⟩ := rd_pair d3 h0 h1
  have hfb : fb < w.heap.size := cell_lt hx
  refine (at_again g 0 d hd fb fo fl fc n nb sa sl sc w hg hfb (by rw [Nat.add_zero] at *; exact cell_of hw c0) (cell_of hw c3) hn hx hy).mono ?_
  rintro e w' ⟨rfl, hW⟩
  have hF : Fr (XOf m ((0, tabB d s (.sl 2 l)) :: H)) w w' := ⟨hW.os, hW.tape, hW.output, hW.old.size, fun k hk _ => hW.old k hk⟩
  have hF0 : Fr (fun _ => False) w w' := ⟨hW.os, hW.tape, hW.output, hW.old.size, fun k hk _ => hW.old k hk⟩
  have hK : Keep w (Ow O0 m ((0, tabB d s (.sl 2 l)) :: H)) w' (Ow O0 m ((0, tabB d s (.sl 2 l)) :: H)) := hF0.keep fun _ _ h => h.elim
  refine ⟨_, m, rfl, ?_, fun b _ => rfl, ⟨fun b B hB g s hm => ?_, hblks.inj⟩, fun b hb => by simp [V.says, V.says1] at hb, hF, hheap⟩
  · show rd w' _ (.ag [.bool nb, .sl 1 r]) _
    have := rd_keep hK _ _ hz
    simp only [rd, rdL]
    refine ⟨_, rfl, _, _, rfl, rfl, rfl, _, _, rfl, rfl, ?_, rfl⟩
    simpa only [rd] using this
  · obtain ⟨e1, e2, e3, arr', T', e4, e5, e6⟩ := hblks.blk b B hB g s hm
    exact ⟨e1, Nat.lt_of_lt_of_le e2 hW.old.size, e3, arr', T', by rw [hW.old _ e2]; exact e4, e5, rdB_keep hK e6⟩
set_option maxRecDepth 100000 in
theorem at_ok_first {o : Obj} {H : Mem} (s x : D) (l : List D) (n : Nat) (nb : Bool) (r : List D) (h0 : l[2 * n]? = some (.bool nb)) (h1 : l[2 * n + 1]? = some (.sl 1 r))
    (hp : CallOK Tryd.prog [(0, o)] 49 [] [] (.d (.sl 2 l)) []) :
    CallOK Tryd.prog [(0, o)] 23 [.ptr 0 0, .d (.int .i64 (n : Int))] ((0, tabB 0 s x) :: H) (.d (.ag [.bool nb, .sl 1 r])) ((0, tabB 1 s (.sl 2 l)) :: H) := by
  intro O0 m ys w hargs hfix hblks hO hsays hbase hheap
  obtain ⟨y0, t0, rfl, hy0, y1, t1, rfl, hy1, rfl⟩ := hargs
  obtain ⟨g, sz, hm, rfl⟩ := hy0
  obtain rfl : y1 = .int .i64 (n : Int) := hy1
  obtain ⟨hX, hg, hs, arr, T, hw, ha, hr⟩ := hblks.blk 0 _ aget_zero g sz hm
  simp only [tabB, List.length_cons, List.length_nil] at hs
  obtain ⟨-, v0, c0, d0⟩ := hr 0 (.int .u32 0) rfl
  obtain ⟨-, v1, c1, d1⟩ := hr 1 (.int .i32 0) rfl
  obtain ⟨hs1, v2, c2, d2⟩ := hr 2 s rfl
  obtain ⟨-, v3, c3, d3⟩ := hr 3 x rfl
  obtain rfl : v0 = .int .u32 0 := d0
  obtain rfl : v1 = .int .i32 0 := d1
  have hsz : (two g 0 w).heap.size = w.heap.size + 2 := by unfold two; simp
  have hO2 : Old w (two g 0 w) := (Old.alloc w _).trans (Old.alloc _ _)
  have hsz2 : ((two g 0 w).setCell ⟨g, 0 + 1, none⟩ (.int .i32 1)).drew.heap.size = w.heap.size + 2 := by rw [← hsz]; simp [World.setCell, World.drew]
  obtain ⟨hb1, hb2⟩ := hbase (0, o) (by simp)
  have hg0 : (0 : Nat) ≠ g := fun h => hb2 ⟨0, tabB 0 s x, sz, aget_zero, by rw [hm, ← h]⟩
  have h0sz : 0 < w.heap.size := by
    rw [Array.getElem?_eq_some_iff] at hb1; exact hb1.1
  have hT0 : ((two g 0 w).setCell ⟨g, 0 + 1, none⟩ (.int .i32 1)).drew.heap[(0 : Nat)]? = some o := by
    rw [heap_drew, heap_set_ne hg0, hO2 0 h0sz]; exact hb1
  have hno : ∀ k, ¬ XOf (fun _ => none) [] k := by rintro k ⟨b, B, s, h, _⟩; cases h
  let O1 : Outs := ⟨fun k _ => k < w.heap.size + 2, 1099511627776, fun _ => False, Nat.le_refl _⟩
  have hprod := hp ⟨fun k _ => k < w.heap.size + 2, 1099511627776, fun _ => False, Nat.le_refl _⟩ (fun _ => none) [] ((two g 0 w).setCell ⟨g, 0 + 1, none⟩ (.int .i32 1)).drew (by simp [rvL]) (fun b B h => by cases h) ⟨(fun b B h => by cases h), (fun b b' B B' g s s' h => by cases h)⟩
    (fun k i h => ⟨by omega, hno k⟩) (fun v hv => by simp at hv) (fun p hp => by
      simp at hp; subst hp; exact ⟨hT0, hno _⟩) (Heap.empty (by omega) (Nat.le_refl _) rfl)
  have prod : Calls Tryd.prog 49 #[] ((two g 0 w).setCell ⟨g, 0 + 1, none⟩ (.int .i32 1)).drew (fun e w' => ∃ ya yl yc, e = .returned (.slice ya yl yc) ∧ AtN (fun y w1 => (∃ m', rd w1 (Ow O1 m' []) (.sl 2 l) y) ∧ w1.os = w.os ∧ w1.tape = w.tape ∧ w1.output = w.output) g n nb (.slice ya yl yc) w' ∧ Old ((two g 0 w).setCell ⟨g, 0 + 1, none⟩ (.int .i32 1)).drew w') := hprod.mono (by
    rintro e w1 ⟨y, m', rfl, hv, -, -, -, hF, -⟩
    have hv' : rd w1 (Ow O1 m' []) (.sl 2 l) y := hv
    obtain ⟨fb, fo, fl, fc, sa, sl, sc, rfl, hn, hnot, hx, hy, hz⟩ := rd_pair hv' h0 h1
    have hnot' : ¬ fb < w.heap.size + 2 := fun h => hnot (Ow_none.2 h)
    exact ⟨_, _, _, rfl, ⟨⟨⟨m', hv'⟩, hF.os, hF.tape, hF.output⟩, fb, fo, fl, fc, sa, sl, sc, rfl, hn, by omega, hx, hy⟩, fun k hk => hF.block k hk (hno k)⟩)
  refine (at_first (fun y w1 => (∃ m', rd w1 (Ow O1 m' []) (.sl 2 l) y) ∧ w1.os = w.os ∧ w1.tape = w.tape ∧ w1.output = w.output) g 0 n nb v3 w hg (by rw [Nat.add_zero] at *; exact cell_of hw c0) (cell_of hw c1) (cell_of hw c3) (frozen_of hw) (frozen_of hw) (frozen_of hw) prod).mono ?_
  rintro e w' ⟨fb, fo, fl, fc, sa, sl, sc, w1, rfl, ⟨⟨m1, hv⟩, q1, q2, q3⟩, hn, hx, hy, hO1, hH⟩
  obtain ⟨fb', fo', fl', fc', sa', sl', sc', he, -, hnot, hx', hy', hz⟩ := rd_pair hv h0 h1
  obtain ⟨hea, rfl, rfl⟩ := Value.slice.inj he
  obtain ⟨rfl, rfl⟩ : fb = fb' ∧ fo = fo' := by
    have := Option.some.inj hea
    exact ⟨congrArg Addr.block this, congrArg Addr.off this⟩
  rw [hy] at hy'
  obtain ⟨rfl, rfl, rfl⟩ := Value.slice.inj (Option.some.inj hy')
  -- the table's block
  have e1 : w1.heap[g]? = some (.cells (arr.setIfInBounds 1 (.int .i32 1)) T (0, 0)) := by
    rw [hO1 g (by omega), heap_drew]
    exact heap_set (by rw [hO2 g hg]; exact hw)
  have eg : w'.heap[g]? = some (.cells ((((arr.setIfInBounds 1 (.int .i32 1)).setIfInBounds 3 (.slice (some ⟨fb, fo, none⟩) fl fc)).setIfInBounds 0 (.int .u32 1)).setIfInBounds 1 (.int .i32 0)) T (0, 0)) := by
    rw [hH.heap]
    unfold fin2 fin
    rw [heap_set_ne (by omega), heap_set_ne (by omega)]
    refine heap_set ?_
    refine heap_set ?_
    rw [heap_drew]
    exact heap_set e1
  have eo : ∀ k, k ≠ g → k < w.heap.size + 2 → k ≠ w.heap.size + 1 → w'.heap[k]? = (two g 0 w).heap[k]? := by
    intro k h1 h2 h3
    rw [hH.heap]
    unfold fin2 fin
    rw [heap_set_ne h3, heap_set_ne h3, heap_set_ne h1, heap_set_ne h1, heap_drew, heap_set_ne h1, hO1 k (by omega), heap_drew, heap_set_ne h1]
  have en : ∀ k, w.heap.size + 2 ≤ k → w'.heap[k]? = w1.heap[k]? := by
    intro k h1
    rw [hH.heap]
    unfold fin2 fin
    rw [heap_set_ne (by omega), heap_set_ne (by omega), heap_set_ne (by omega), heap_set_ne (by omega), heap_drew, heap_set_ne (by omega)]
  have hsw : w.heap.size + 2 ≤ w'.heap.size := by
    have := hO1.size
    rw [hsz2] at this
    have e : w'.heap.size = w1.heap.size := by
      rw [hH.heap]; simp [fin2, fin, World.setCell, World.drew]
    omega
  have hK : Keep w (Ow O0 m ((0, tabB 0 s x) :: H)) w' (Ow O0 m ((0, tabB 1 s (.sl 2 l)) :: H)) := by
    refine ⟨fun b i y hc ho => ?_, fun c => by show (refOf m _ c).le (refOf m _ c); rw [refOf_low (m' := m) (m := m) (low_one (B := tabB 0 s x) (B' := tabB 1 s (.sl 2 l)))]; exact RS.le_refl _⟩
    refine ⟨?_, fun h => ho (Ow_swap (B := tabB 1 s (.sl 2 l)) (B' := tabB 0 s x) (by rfl) h)⟩
    have hb : b < w.heap.size := cell_lt hc
    have hbg : b ≠ g := fun h => ho (h ▸ Ow_own hm rfl)
    simp only [World.cell?] at hc ⊢
    rw [eo b hbg (by omega) (by omega), hO2 b hb]
    exact hc
  have hK1 : Keep w1 (Ow O1 m1 []) w' (Ow O0 m ((0, tabB 1 s (.sl 2 l)) :: H)) := by
    refine ⟨fun b i y hc ho' => ?_, fun c => by show (refOf m1 _ c).le (refOf m _ c); rw [refOf_none rfl]; trivial⟩
    have ho : ¬ b < w.heap.size + 2 := fun h => ho' (Ow_none.2 h)
    refine ⟨?_, ?_⟩
    · simp only [World.cell?] at hc ⊢
      rw [en b (by omega)]
      exact hc
    · intro h
      rcases Ow_swap (B := tabB 1 s (.sl 2 l)) (B' := tabB 0 s x) (by rfl) h with h | ⟨b', C, s', h, h1, _⟩
      · have := (hO b i h).1; omega
      · have := (hblks.blk b' C h b s' h1).2.1; omega
  have hF : Fr (XOf m ((0, tabB 0 s x) :: H)) w w' := by
    refine ⟨?_, ?_, ?_, by omega, fun k hk hn => ?_⟩
    · rw [hH.os, fin2, fin, os_set, os_set, os_set, os_set, os_drew, os_set]; exact q1
    · rw [hH.tape, fin2, fin, tape_set, tape_set, tape_set, tape_set, tape_drew, tape_set]; exact q2
    · rw [hH.output, fin2, fin, output_set, output_set, output_set, output_set, output_drew, output_set]; exact q3
    · have hkg : k ≠ g := fun h => hn ⟨0, tabB 0 s x, sz, aget_zero, by rw [hm, ← h]⟩
      rw [eo k hkg (by omega) (by omega), hO2 k hk]
  refine ⟨_, m, rfl, ?_, fun b _ => rfl, ⟨fun b B hB g' s' hm' => ?_, ?_⟩, fun b hb => by simp [V.says, V.says1] at hb, hF, hheap.low low_one⟩
  · show rd w' _ (.ag [.bool nb, .sl 1 r]) _
    have := rd_keep hK1 _ _ hz
    simp only [rd, rdL]
    refine ⟨_, rfl, _, _, rfl, rfl, rfl, _, _, rfl, rfl, ?_, rfl⟩
    simpa only [rd] using this
  · by_cases e : b = 0
    · subst e
      rw [aget_zero] at hB
      cases hB
      rw [hm] at hm'
      cases hm'
      refine ⟨.inr ⟨0, tabB 0 s x, sz, aget_zero, hm⟩, by omega, by simpa [tabB] using hs, _, T, eg, by simp [ha], fun i d hd => ?_⟩
      have hsz4 : 4 ≤ arr.size := by omega
      match i, hd with
      | 0, hd => simp [tabB] at hd; subst hd; exact ⟨rfl, _, by simp [show 0 < arr.size by omega] <;> rfl, rfl⟩
      | 1, hd => simp [tabB] at hd; subst hd; exact ⟨rfl, _, by simp [show 1 < arr.size by omega] <;> rfl, rfl⟩
      | 2, hd => simp [tabB] at hd; subst hd; exact ⟨hs1, v2, by simpa using c2, rd_keep hK _ _ d2⟩
      | 3, hd => simp [tabB] at hd; subst hd; exact ⟨rfl, _, by simp [show 3 < arr.size by omega] <;> rfl, rd_keep hK1 _ _ hv⟩
      | i + 4, hd => simp [tabB] at hd
    · rw [aget_suc e] at hB
      have hB0 : aget ((0, tabB 0 s x) :: H) b = some B := by rw [aget_suc e]; exact hB
      obtain ⟨e1', e2', e3', arr', T', e4', e5', e6'⟩ := hblks.blk b B hB0 g' s' hm'
      have hg' : g' ≠ g := fun h => e (hblks.inj b 0 B _ g s' sz hB0 aget_zero (h ▸ hm') hm)
      exact ⟨e1', by omega, e3', arr', T', by rw [eo g' hg' (by omega) (by omega), hO2 g' e2']; exact e4', e5', rdB_keep hK e6'⟩
  · intro b b' B B' g z z' hB hB' h1 h2
    have tr : ∀ {c : Nat} {C : Blk}, aget ((0, tabB 1 s (.sl 2 l)) :: H) c = some C → ∃ C', aget ((0, tabB 0 s x) :: H) c = some C' := by
      intro c C h
      by_cases e : c = 0
      · subst e; exact ⟨_, aget_zero⟩
      · rw [aget_suc e] at h ⊢; exact ⟨C, h⟩
    obtain ⟨C, hC⟩ := tr hB
    obtain ⟨C', hC'⟩ := tr hB'
    exact hblks.inj b b' C C' g z z' hC hC' h1 h2
end Go.Proofs.YtgigaimaaijalaaDoor
