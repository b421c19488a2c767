/- The check of all groups of five players. -/
import Derived.Test.YtnmbpainnkdonaaGreatDoorOy
set_option linter.unusedSimpArgs false
set_option linter.unusedVariables false
namespace Go.Proofs.YtnmbpainnkdonaaGreatDoor
open Go Go.Proofs.R
set_option maxRecDepth 100000
/-- All orders of five players. -/
def ord5 : List (List Int) := [[0, 1, 2, 3, 4], [0, 1, 2, 4, 3], [0, 1, 3, 2, 4], [0, 1, 3, 4, 2], [0, 1, 4, 2, 3], [0, 1, 4, 3, 2], [0, 2, 1, 3, 4], [0, 2, 1, 4, 3], [0, 2, 3, 1, 4], [0, 2, 3, 4, 1], [0, 2, 4, 1, 3], [0, 2, 4, 3, 1], [0, 3, 1, 2, 4], [0, 3, 1, 4, 2], [0, 3, 2, 1, 4], [0, 3, 2, 4, 1], [0, 3, 4, 1, 2], [0, 3, 4, 2, 1], [0, 4, 1, 2, 3], [0, 4, 1, 3, 2], [0, 4, 2, 1, 3], [0, 4, 2, 3, 1], [0, 4, 3, 1, 2], [0, 4, 3, 2, 1], [1, 0, 2, 3, 4], [1, 0, 2, 4, 3], [1, 0, 3, 2, 4], [1, 0, 3, 4, 2], [1, 0, 4, 2, 3], [1, 0, 4, 3, 2], [1, 2, 0, 3, 4], [1, 2, 0, 4, 3], [1, 2, 3, 0, 4], [1, 2, 3, 4, 0], [1, 2, 4, 0, 3], [1, 2, 4, 3, 0], [1, 3, 0, 2, 4], [1, 3, 0, 4, 2], [1, 3, 2, 0, 4], [1, 3, 2, 4, 0], [1, 3, 4, 0, 2], [1, 3, 4, 2, 0], [1, 4, 0, 2, 3], [1, 4, 0, 3, 2], [1, 4, 2, 0, 3], [1, 4, 2, 3, 0], [1, 4, 3, 0, 2], [1, 4, 3, 2, 0], [2, 0, 1, 3, 4], [2, 0, 1, 4, 3], [2, 0, 3, 1, 4], [2, 0, 3, 4, 1], [2, 0, 4, 1, 3], [2, 0, 4, 3, 1], [2, 1, 0, 3, 4], [2, 1, 0, 4, 3], [2, 1, 3, 0, 4], [2, 1, 3, 4, 0], [2, 1, 4, 0, 3], [2, 1, 4, 3, 0], [2, 3, 0, 1, 4], [2, 3, 0, 4, 1], [2, 3, 1, 0, 4], [2, 3, 1, 4, 0], [2, 3, 4, 0, 1], [2, 3, 4, 1, 0], [2, 4, 0, 1, 3], [2, 4, 0, 3, 1], [2, 4, 1, 0, 3], [2, 4, 1, 3, 0], [2, 4, 3, 0, 1], [2, 4, 3, 1, 0], [3, 0, 1, 2, 4], [3, 0, 1, 4, 2], [3, 0, 2, 1, 4], [3, 0, 2, 4, 1], [3, 0, 4, 1, 2], [3, 0, 4, 2, 1], [3, 1, 0, 2, 4], [3, 1, 0, 4, 2], [3, 1, 2, 0, 4], [3, 1, 2, 4, 0], [3, 1, 4, 0, 2], [3, 1, 4, 2, 0], [3, 2, 0, 1, 4], [3, 2, 0, 4, 1], [3, 2, 1, 0, 4], [3, 2, 1, 4, 0], [3, 2, 4, 0, 1], [3, 2, 4, 1, 0], [3, 4, 0, 1, 2], [3, 4, 0, 2, 1], [3, 4, 1, 0, 2], [3, 4, 1, 2, 0], [3, 4, 2, 0, 1], [3, 4, 2, 1, 0], [4, 0, 1, 2, 3], [4, 0, 1, 3, 2], [4, 0, 2, 1, 3], [4, 0, 2, 3, 1], [4, 0, 3, 1, 2], [4, 0, 3, 2, 1], [4, 1, 0, 2, 3], [4, 1, 0, 3, 2], [4, 1, 2, 0, 3], [4, 1, 2, 3, 0], [4, 1, 3, 0, 2], [4, 1, 3, 2, 0], [4, 2, 0, 1, 3], [4, 2, 0, 3, 1], [4, 2, 1, 0, 3], [4, 2, 1, 3, 0], [4, 2, 3, 0, 1], [4, 2, 3, 1, 0], [4, 3, 0, 1, 2], [4, 3, 0, 2, 1], [4, 3, 1, 0, 2], [4, 3, 1, 2, 0], [4, 3, 2, 0, 1], [4, 3, 2, 1, 0]]
theorem ord5_eq : allL 5041 (iot 5) = ord5 := by decide +kernel
/-- Of an order: which groups come together; who comes ahead of each player, and the player. -/
def tabF (o : List Int) : Nat × List Nat := ((List.range 32).foldl (fun a g => if tgS g o 0 0 0 0 then a + 2 ^ g else a) 0, (List.range 5).map fun p => 32 * p + pre o p 5)
def tab5 : List (Nat × List Nat) := [(3506557406, [0, 33, 67, 103, 143]), (3520135646, [0, 33, 67, 119, 135]), (3490831646, [0, 33, 75, 99, 143]), (3708882206, [0, 33, 91, 99, 139]), (3504148766, [0, 33, 83, 119, 131]), (3708621086, [0, 33, 91, 115, 131]), (3305227766, [0, 37, 65, 103, 143]), (3318022646, [0, 37, 65, 119, 135]), (3288724790, [0, 45, 65, 101, 143]), (4110758198, [0, 61, 65, 101, 141]), (3304391990, [0, 53, 65, 119, 133]), (4113630518, [0, 61, 65, 117, 133]), (3226586966, [0, 41, 75, 97, 143]), (3428126486, [0, 41, 91, 97, 139]), (3225809750, [0, 45, 73, 97, 143]), (4032115478, [0, 61, 73, 97, 141]), (3477406550, [0, 57, 91, 97, 137]), (4082172758, [0, 61, 89, 97, 137]), (3234812246, [0, 49, 83, 119, 129]), (3423556886, [0, 49, 91, 115, 129]), (3237168470, [0, 53, 81, 119, 129]), (4029895958, [0, 61, 81, 117, 129]), (3473098070, [0, 57, 91, 113, 129]), (4077080918, [0, 61, 89, 113, 129]), (2969678270, [2, 32, 67, 103, 143]), (2981167550, [2, 32, 67, 119, 135]), (2953952030, [2, 32, 75, 99, 143]), (3138456350, [2, 32, 91, 99, 139]), (2965049630, [2, 32, 83, 119, 131]), (3138064670, [2, 32, 91, 115, 131]), (2734793718, [6, 32, 66, 103, 143]), (2745369078, [6, 32, 66, 119, 135]), (2718167894, [14, 32, 66, 102, 143]), (4077080918, [30, 32, 66, 102, 142]), (2733835094, [22, 32, 66, 119, 134]), (4082172758, [30, 32, 66, 118, 134]), (2687610678, [10, 32, 75, 98, 143]), (2855472918, [10, 32, 91, 98, 139]), (2686711094, [14, 32, 74, 98, 143]), (4029895958, [30, 32, 74, 98, 142]), (2938307894, [26, 32, 91, 98, 138]), (4113630518, [30, 32, 90, 98, 138]), (2695835958, [18, 32, 83, 119, 130]), (2853122838, [18, 32, 91, 115, 130]), (2700419894, [22, 32, 82, 119, 130]), (4032115478, [30, 32, 82, 118, 130]), (2936349494, [26, 32, 91, 114, 130]), (4110758198, [30, 32, 90, 114, 130]), (2365689278, [4, 37, 64, 103, 143]), (2374828478, [4, 37, 64, 119, 135]), (2349182774, [4, 45, 64, 101, 143]), (2936349494, [4, 61, 64, 101, 141]), (2360280374, [4, 53, 64, 119, 133]), (2938307894, [4, 61, 64, 117, 133]), (2332134366, [6, 36, 64, 103, 143]), (2341143006, [6, 36, 64, 119, 135]), (2315505494, [14, 36, 64, 102, 143]), (3473098070, [30, 36, 64, 102, 142]), (2328822614, [22, 36, 64, 119, 134]), (3477406550, [30, 36, 64, 118, 134]), (2282601246, [12, 45, 64, 100, 143]), (2853122838, [12, 61, 64, 100, 141]), (2282478878, [14, 44, 64, 100, 143]), (3423556886, [30, 44, 64, 100, 142]), (3138064670, [28, 61, 64, 100, 140]), (3708621086, [30, 60, 64, 100, 140]), (2293959966, [20, 53, 64, 119, 132]), (2855472918, [20, 61, 64, 117, 132]), (2296187678, [22, 52, 64, 119, 132]), (3428126486, [30, 52, 64, 118, 132]), (3138456350, [28, 61, 64, 116, 132]), (3708882206, [30, 60, 64, 116, 132]), (2161216478, [8, 41, 75, 96, 143]), (2296187678, [8, 41, 91, 96, 139]), (2160436214, [8, 45, 73, 96, 143]), (2700419894, [8, 61, 73, 96, 141]), (2328822614, [8, 57, 91, 96, 137]), (2733835094, [8, 61, 89, 96, 137]), (2159119806, [10, 40, 75, 96, 143]), (2293959966, [10, 40, 91, 96, 139]), (2158216694, [14, 40, 74, 96, 143]), (3237168470, [30, 40, 74, 96, 142]), (2360280374, [26, 40, 91, 96, 138]), (3304391990, [30, 40, 90, 96, 138]), (2156769726, [12, 45, 72, 96, 143]), (2695835958, [12, 61, 72, 96, 141]), (2156646878, [14, 44, 72, 96, 143]), (3234812246, [30, 44, 72, 96, 142]), (2965049630, [28, 61, 72, 96, 140]), (3504148766, [30, 60, 72, 96, 140]), (2341143006, [24, 57, 91, 96, 136]), (2745369078, [24, 61, 89, 96, 136]), (2374828478, [26, 56, 91, 96, 136]), (3318022646, [30, 56, 90, 96, 136]), (2981167550, [28, 61, 88, 96, 136]), (3520135646, [30, 60, 88, 96, 136]), (2156646878, [16, 49, 83, 119, 128]), (2282478878, [16, 49, 91, 115, 128]), (2158216694, [16, 53, 81, 119, 128]), (2686711094, [16, 61, 81, 117, 128]), (2315505494, [16, 57, 91, 113, 128]), (2718167894, [16, 61, 89, 113, 128]), (2156769726, [18, 48, 83, 119, 128]), (2282601246, [18, 48, 91, 115, 128]), (2160436214, [22, 48, 82, 119, 128]), (3225809750, [30, 48, 82, 118, 128]), (2349182774, [26, 48, 91, 114, 128]), (3288724790, [30, 48, 90, 114, 128]), (2159119806, [20, 53, 80, 119, 128]), (2687610678, [20, 61, 80, 117, 128]), (2161216478, [22, 52, 80, 119, 128]), (3226586966, [30, 52, 80, 118, 128]), (2953952030, [28, 61, 80, 116, 128]), (3490831646, [30, 60, 80, 116, 128]), (2332134366, [24, 57, 91, 112, 128]), (2734793718, [24, 61, 89, 112, 128]), (2365689278, [26, 56, 91, 112, 128]), (3305227766, [30, 56, 90, 112, 128]), (2969678270, [28, 61, 88, 112, 128]), (3506557406, [30, 60, 88, 112, 128])]
theorem tab5_eq : ord5.map tabF = tab5 := by decide +kernel
theorem tab5_bits : ord5.all (fun o => (List.range 32).all (fun g => (tabF o).1.testBit g == tgS g o 0 0 0 0) && (List.range 5).all fun p => Nat.beq (pre o p 5 ||| 2 ^ p) (pre o p 5 + 2 ^ p) && Nat.blt (pre o p 5) 32) = true := by decide +kernel
/-- All players' shares in one list. -/
def ogA (gs : List Int) : Nat → List (Nat × Nat)
  | 0 => []
  | p + 1 => ogA gs p ++ (ogL gs p gs.length).map fun t => (t.1, 32 * p + t.2)
def ok5 (gs : List Int) : Bool :=
  (fun F : List (Nat × List Nat) => Nat.blt 0 F.length && (List.range 5).all (fun p => (ogL gs p gs.length).all fun t => Nat.blt t.2 32) && lsB 160 (F.flatMap fun t => t.2.map fun e => (3600, e)) (sc F.length (ogA gs 5))) (tab5.filter fun t => gs.all fun g => t.1.testBit g.toNat)
theorem g5_1 : allS 5 ok5 5 [1] 1 = true := by decide +kernel
theorem g5_2 : allS 5 ok5 5 [2] 2 = true := by decide +kernel
theorem g5_3 : allS 5 ok5 5 [3] 3 = true := by decide +kernel
theorem g5_4 : allS 5 ok5 5 [4] 4 = true := by decide +kernel
theorem g5_5 : allS 5 ok5 5 [5] 5 = true := by decide +kernel
theorem g5_6 : allS 5 ok5 5 [6] 6 = true := by decide +kernel
theorem g5_7 : allS 5 ok5 5 [7] 7 = true := by decide +kernel
theorem g5_8 : allS 5 ok5 5 [8] 8 = true := by decide +kernel
theorem g5_9 : allS 5 ok5 5 [9] 9 = true := by decide +kernel
theorem g5_10 : allS 5 ok5 5 [10] 10 = true := by decide +kernel
theorem g5_11 : allS 5 ok5 5 [11] 11 = true := by decide +kernel
theorem g5_12 : allS 5 ok5 5 [12] 12 = true := by decide +kernel
theorem g5_13 : allS 5 ok5 5 [13] 13 = true := by decide +kernel
theorem g5_14 : allS 5 ok5 5 [14] 14 = true := by decide +kernel
theorem g5_15 : allS 5 ok5 5 [15] 15 = true := by decide +kernel
theorem g5_16 : allS 5 ok5 5 [16] 16 = true := by decide +kernel
theorem g5_17 : allS 5 ok5 5 [17] 17 = true := by decide +kernel
theorem g5_18 : allS 5 ok5 5 [18] 18 = true := by decide +kernel
theorem g5_19 : allS 5 ok5 5 [19] 19 = true := by decide +kernel
theorem g5_20 : allS 5 ok5 5 [20] 20 = true := by decide +kernel
theorem g5_21 : allS 5 ok5 5 [21] 21 = true := by decide +kernel
theorem g5_22 : allS 5 ok5 5 [22] 22 = true := by decide +kernel
theorem g5_23 : allS 5 ok5 5 [23] 23 = true := by decide +kernel
theorem g5_24 : allS 5 ok5 5 [24] 24 = true := by decide +kernel
theorem g5_25 : allS 5 ok5 5 [25] 25 = true := by decide +kernel
theorem g5_26 : allS 5 ok5 5 [26] 26 = true := by decide +kernel
theorem g5_27 : allS 5 ok5 5 [27] 27 = true := by decide +kernel
theorem g5_28 : allS 5 ok5 5 [28] 28 = true := by decide +kernel
theorem g5_29 : allS 5 ok5 5 [29] 29 = true := by decide +kernel
theorem g5_30 : allS 5 ok5 5 [30] 30 = true := by decide +kernel
theorem g5_31 : allS 5 ok5 5 [31] 31 = true := by decide +kernel
theorem groups5 : allS 5 ok5 6 [] 0 = true := by
  have e : allS 5 ok5 6 [] 0 = (List.range 32).all fun g => if g = 0 then true else if 0 &&& g ≠ 0 then true else allS 5 ok5 5 ([] ++ [(g : Int)]) (0 ||| g) := rfl
  rw [e, List.all_eq_true]
  intro g hg
  have hg' := List.mem_range.1 hg
  match g, hg' with
  | 0, _ => rfl
  | 1, _ => exact g5_1
  | 2, _ => exact g5_2
  | 3, _ => exact g5_3
  | 4, _ => exact g5_4
  | 5, _ => exact g5_5
  | 6, _ => exact g5_6
  | 7, _ => exact g5_7
  | 8, _ => exact g5_8
  | 9, _ => exact g5_9
  | 10, _ => exact g5_10
  | 11, _ => exact g5_11
  | 12, _ => exact g5_12
  | 13, _ => exact g5_13
  | 14, _ => exact g5_14
  | 15, _ => exact g5_15
  | 16, _ => exact g5_16
  | 17, _ => exact g5_17
  | 18, _ => exact g5_18
  | 19, _ => exact g5_19
  | 20, _ => exact g5_20
  | 21, _ => exact g5_21
  | 22, _ => exact g5_22
  | 23, _ => exact g5_23
  | 24, _ => exact g5_24
  | 25, _ => exact g5_25
  | 26, _ => exact g5_26
  | 27, _ => exact g5_27
  | 28, _ => exact g5_28
  | 29, _ => exact g5_29
  | 30, _ => exact g5_30
  | 31, _ => exact g5_31
  | g + 32, h => omega
theorem ls_flat {F : Nat → Rat} (k : Nat) : ∀ (os : List (List Int)) (p : Nat), p < 5 → (∀ o ∈ os, ∀ q, q < 5 → pre o q 5 < 32) → ls ((os.map tabF).flatMap fun t => t.2.map fun e => (k, e)) (fun x => if x / 32 = p then F (x % 32) else 0) = (k : Rat) * ls (os.map fun o => (1, pre o p 5)) F
  | [], p, _, _ => by simp [ls, Rat.mul_zero]
  | o :: r, p, hp, h => by
    rw [List.map_cons, List.flatMap_cons, ls_app, ls_flat k r p hp fun x hx => h x (by simp [hx]), List.map_cons, ls]
    have hq := h o (by simp)
    have h0 := hq 0 (by omega)
    have h1 := hq 1 (by omega)
    have h2 := hq 2 (by omega)
    have h3 := hq 3 (by omega)
    have h4 := hq 4 (by omega)
    have hes : (tabF o).2 = [pre o 0 5, 32 + pre o 1 5, 64 + pre o 2 5, 96 + pre o 3 5, 128 + pre o 4 5] := by
      simp [tabF, List.range_succ]
    rw [hes]
    simp only [List.map_cons, List.map_nil, ls]
    have d0 : pre o 0 5 / 32 = 0 := by omega
    have d1 : (32 + pre o 1 5) / 32 = 1 := by omega
    have d2 : (64 + pre o 2 5) / 32 = 2 := by omega
    have d3 : (96 + pre o 3 5) / 32 = 3 := by omega
    have d4 : (128 + pre o 4 5) / 32 = 4 := by omega
    have m0 : pre o 0 5 % 32 = pre o 0 5 := by omega
    have m1 : (32 + pre o 1 5) % 32 = pre o 1 5 := by omega
    have m2 : (64 + pre o 2 5) % 32 = pre o 2 5 := by omega
    have m3 : (96 + pre o 3 5) % 32 = pre o 3 5 := by omega
    have m4 : (128 + pre o 4 5) % 32 = pre o 4 5 := by omega
    rw [d0, d1, d2, d3, d4, m0, m1, m2, m3, m4]
    match p, hp with
    | 0, _ => simp; grind
    | 1, _ => simp; grind
    | 2, _ => simp; grind
    | 3, _ => simp; grind
    | 4, _ => simp; grind
theorem ls_shift {F : Nat → Rat} {p q : Nat} : ∀ {T : List (Nat × Nat)}, (∀ t ∈ T, t.2 < 32) → ls (T.map fun t => (t.1, 32 * q + t.2)) (fun x => if x / 32 = p then F (x % 32) else 0) = if q = p then ls T F else 0
  | [], _ => by simp [ls]
  | t :: r, h => by
    have ht := h t (by simp)
    rw [List.map_cons, ls, ls_shift fun x hx => h x (by simp [hx])]
    have d : (32 * q + t.2) / 32 = q := by omega
    have m : (32 * q + t.2) % 32 = t.2 := by omega
    rw [d, m]
    split
    · rw [ls]
    · grind
theorem ls_ogA {F : Nat → Rat} {gs : List Int} {p : Nat} : ∀ n, (∀ q, q < n → ∀ t ∈ ogL gs q gs.length, t.2 < 32) → ls (ogA gs n) (fun x => if x / 32 = p then F (x % 32) else 0) = if p < n then ls (ogL gs p gs.length) F else 0
  | 0, _ => by simp [ogA, ls]
  | n + 1, h => by
    rw [ogA, ls_app, ls_ogA n fun q hq => h q (by omega), ls_shift (h n (by omega))]
    by_cases c : n = p
    · subst c; rw [if_neg (by omega), if_pos rfl, if_pos (by omega)]; grind
    · rw [if_neg c]
      by_cases c2 : p < n
      · rw [if_pos c2, if_pos (by omega)]; grind
      · rw [if_neg c2, if_neg (by omega)]; grind
theorem tog_tab {gs : List Int} (h : rightG gs 5 = true) {o : List Int} (ho : o ∈ ord5) : togB gs o = gs.all fun g => (tabF o).1.testBit g.toNat := by
  have hb := List.all_eq_true.1 tab5_bits o ho
  rw [Bool.and_eq_true, List.all_eq_true] at hb
  obtain ⟨hg, -⟩ := rightG_iff h
  unfold togB
  have : ∀ gs : List Int, (∀ g ∈ gs, 0 < g ∧ g < ((2 ^ 5 : Nat) : Int)) → (gs.all fun g => tgS g.toNat o 0 0 0 0) = gs.all fun g => (tabF o).1.testBit g.toNat := by
    intro gs
    induction gs with
    | nil => intro _; rfl
    | cons g r ih =>
      intro hg
      have hx := hg g (by simp)
      have e2 : ((2 ^ 5 : Nat) : Int) = 32 := rfl
      rw [e2] at hx
      have := hb.1 g.toNat (List.mem_range.2 (by omega))
      rw [List.all_cons, List.all_cons, ih fun x hx => hg x (by simp [hx]), eq_of_beq this]
  exact this gs hg
theorem filter_tab {gs : List Int} (h : rightG gs 5 = true) : (tab5.filter fun t => gs.all fun g => t.1.testBit g.toNat) = (ord5.filter (togB gs)).map tabF := by
  rw [← tab5_eq, List.filter_map]
  congr 1
  refine List.filter_congr fun o ho => ?_
  rw [tog_tab h ho]
  rfl
theorem mean_ow5 {v : Nat → Rat} {gs : List Int} {p : Nat} (h : rightG gs 5 = true) (hr : ∀ o ∈ ord5, rightB o 5 = true) (hok : ok5 gs = true) (hp : p < 5) : 0 < (ord5.filter (togB gs)).length ∧ mV v (ord5.filter (togB gs)) 5 p = owV v gs p := by
  have hm := rightG_len h
  have hr' : ∀ j, j < (ord5.filter (togB gs)).length → rightB (ix (ord5.filter (togB gs)) j) 5 = true := fun j hj => hr _ (List.mem_filter.1 (os_ix hj)).1
  have hpre : ∀ o ∈ ord5.filter (togB gs), ∀ q, q < 5 → (pre o q 5 ||| 2 ^ q = pre o q 5 + 2 ^ q) ∧ pre o q 5 < 32 := by
    intro o ho q hq
    have hb := List.all_eq_true.1 tab5_bits o (List.mem_filter.1 ho).1
    rw [Bool.and_eq_true, List.all_eq_true] at hb
    have := List.all_eq_true.1 hb.2 q (List.mem_range.2 hq)
    rw [Bool.and_eq_true] at this
    exact ⟨Nat.eq_of_beq_eq_true this.1, blt_lt this.2⟩
  unfold ok5 at hok
  simp only [filter_tab h] at hok
  generalize ord5.filter (togB gs) = os at *
  rw [Bool.and_eq_true, Bool.and_eq_true, List.all_eq_true, List.length_map] at hok
  obtain ⟨⟨h0, h1⟩, h2⟩ := hok
  have h0' : 0 < os.length := blt_lt h0
  have h32 : ∀ q, q < 5 → ∀ t ∈ ogL gs q gs.length, t.2 < 32 := fun q hq t ht => blt_lt (List.all_eq_true.1 (h1 q (List.mem_range.2 hq)) t ht)
  refine ⟨h0', ?_⟩
  have e3 := lsB_eq h2 (fun x => if x / 32 = p then mF v p (x % 32) else 0)
  rw [ls_flat 3600 os p hp fun o ho q hq => (hpre o ho q hq).2, ls_sc, ls_ogA 5 h32, if_pos hp] at e3
  unfold mV
  rw [sV_ls hp hr' _ (Nat.le_refl _), List.take_of_length_le (Nat.le_refl _), owV_ls (by omega) (by omega) (rightG_iff h).1 hp]
  have e1 : ls (os.map fun o => (1, pre o p 5)) (fun s => v (s + 2 ^ p) - v s) = ls (os.map fun o => (1, pre o p 5)) (mF v p) := ls_same fun t ht => by
    obtain ⟨o, ho, rfl⟩ := List.mem_map.1 ht
    have := (hpre o ho p hp).1
    simp only [mF]
    rw [this]
  rw [e1, Rat.divInt_eq_div]
  have hne : ((os.length : Int) : Rat) ≠ 0 := by
    have : (os.length : Int) ≠ 0 := by omega
    exact_mod_cast this
  push_cast at e3 hne ⊢
  rw [Rat.div_def]
  grind
end Go.Proofs.YtnmbpainnkdonaaGreatDoor
