/- GamePairs: the table of all pairs on the heap. -/
import Derived.Test.YtgigaimaaijalaaGreatDoorGv
import Derived.Test.YtgigaimaaijalaaGreatDoorRg
set_option linter.unusedSimpArgs false
set_option linter.unusedVariables false
namespace Go.Proofs.YtgigaimaaijalaaGreatDoor
open Go Go.Proofs.R
set_option maxRecDepth 10000
abbrev zQ : RQ := ⟨false, [], []⟩
/-- The cells of a table of which so many rows are made. -/
def ptC (n m : Nat) : List D := refs (fun j => j + 1) m n ++ List.replicate (n - m) (.sl 3 [])
theorem ptC_len {n m : Nat} (h : m ≤ n) : (ptC n m).length = n := by unfold ptC; simp; omega
theorem ptC_get {n m j : Nat} (h : j < m) : (ptC n m)[j]? = some (.ref (1099511627776 + (j + 1)) 3 0 n) := by
  unfold ptC
  rw [List.getElem?_append_left (by simpa using h), refs_get h]
theorem ptC_set {n m : Nat} (h : m < n) : (ptC n m).set m (.ref (1099511627776 + (m + 1)) 3 0 n) = ptC n (m + 1) := by
  unfold ptC
  rw [List.set_append_right _ _ (by simp), refs_len, Nat.sub_self]
  have e : n - m = (n - (m + 1)) + 1 := by omega
  rw [e, List.replicate_succ, List.set_cons_zero]
  rw [← refs_app (fun j => j + 1) m n (m + 1) rfl, List.append_assoc]
  rfl
/-- What the heap holds. -/
def pF (n m : Nat) (G : Nat → List RQ) : Nat → Option Blk := fun c => if c = 0 then some ⟨0, false, ptC n m⟩ else if c ≤ m then some ⟨0, false, el (G (c - 1))⟩ else none
def PT (H : Mem) (n m : Nat) (G : Nat → List RQ) : Prop := HS H (m + 1) (pF n m G)
theorem PT.tab {H : Mem} {n m : Nat} {G : Nat → List RQ} (h : PT H n m G) : aget H 1099511627776 = some ⟨0, false, ptC n m⟩ := h.at_ 0
theorem PT.row {H : Mem} {n m : Nat} {G : Nat → List RQ} (h : PT H n m G) {j : Nat} (hj : j < m) : aget H (1099511627776 + (j + 1)) = some ⟨0, false, el (G j)⟩ := by
  rw [h.at_]
  unfold pF
  rw [if_neg (by omega), if_pos (by omega)]
  rfl
theorem HS.congr {H : Mem} {n : Nat} {f g : Nat → Option Blk} (h : HS H n f) (e : ∀ c, f c = g c) : HS H n g := ⟨h.hp, h.cnt, fun i => by rw [h.at_, e]⟩
theorem PT.congr {H : Mem} {n m : Nat} {G G' : Nat → List RQ} (h : PT H n m G) (e : ∀ j, j < m → G j = G' j) : PT H n m G' := HS.congr h fun c => by
  unfold pF
  by_cases h0 : c = 0
  · rw [if_pos h0, if_pos h0]
  · rw [if_neg h0, if_neg h0]
    by_cases h1 : c ≤ m
    · rw [if_pos h1, if_pos h1, e _ (by omega)]
    · rw [if_neg h1, if_neg h1]
theorem PT.set {H : Mem} {n m : Nat} {G : Nat → List RQ} (h : PT H n m G) {j : Nat} (hj : j < m) (a : List RQ) : PT (aput (1099511627776 + (j + 1)) ⟨0, false, el a⟩ H) n m (fun x => if x = j then a else G x) := by
  refine HS.congr (h.put (j + 1) ⟨0, false, el a⟩) fun c => ?_
  show (if c = j + 1 then some _ else if c = 0 then some _ else if c ≤ m then some _ else none) = (if c = 0 then some _ else if c ≤ m then some (⟨0, false, el (if c - 1 = j then a else G (c - 1))⟩ : Blk) else none)
  by_cases h0 : c = j + 1
  · rw [if_pos h0, if_neg (by omega), if_pos (by omega), if_pos (by omega)]
  · rw [if_neg h0]
    by_cases h1 : c = 0
    · rw [if_pos h1, if_pos h1]
    · rw [if_neg h1, if_neg h1, if_neg (show ¬ c - 1 = j by omega)]
theorem PT.new {H : Mem} {n m : Nat} {G : Nat → List RQ} (h : PT H n m G) (hm : m < n) (a : List RQ) : PT (aput 1099511627776 ⟨0, false, ptC n (m + 1)⟩ (hput ⟨0, false, el a⟩ H)) n (m + 1) (fun x => if x = m then a else G x) := by
  have := (HS.hput h ⟨0, false, el a⟩).put 0 ⟨0, false, ptC n (m + 1)⟩
  refine HS.congr this fun c => ?_
  show (if c = 0 then some _ else if c = m + 1 then some _ else if c = 0 then some _ else if c ≤ m then some _ else none) = (if c = 0 then some _ else if c ≤ m + 1 then some (⟨0, false, el (if c - 1 = m then a else G (c - 1))⟩ : Blk) else none)
  by_cases h0 : c = 0
  · rw [if_pos h0, if_pos h0]
  · rw [if_neg h0, if_neg h0]
    by_cases h1 : c = m + 1
    · rw [if_pos h1, if_neg h0, if_pos (show c ≤ m + 1 by omega), if_pos (show c - 1 = m by omega)]
    · rw [if_neg h1, if_neg h0, if_neg (show ¬ c - 1 = m by omega)]
      by_cases h2 : c ≤ m
      · rw [if_pos h2, if_pos (by omega)]
      · rw [if_neg h2, if_neg (by omega)]
theorem PT.nil (n : Nat) (G : Nat → List RQ) : PT (hput ⟨0, false, List.replicate n (.sl 3 [])⟩ []) n 0 G := by
  refine HS.congr (HS.nil.hput _) fun c => ?_
  unfold fput pF
  by_cases h0 : c = 0
  · rw [if_pos h0, if_pos h0]
    unfold ptC
    rfl
  · rw [if_neg h0, if_neg h0, if_neg (by omega)]
/-- A row as it is after the pairs with the players below one. -/
def prF (v : Nat → Rat) (n i k : Nat) : Nat → RQ := fun j => if j = i then can (pL v n i k) else if j < k then can (pV v n i j) else zQ
theorem prF_same (v : Nat → Rat) (n i : Nat) : prF v n i (i + 1) = prF v n i i := by
  funext j
  unfold prF
  by_cases h : j = i
  · rw [if_pos h, if_pos h, pL, if_pos rfl]
  · rw [if_neg h, if_neg h]
    by_cases h2 : j < i
    · rw [if_pos h2, if_pos (by omega)]
    · rw [if_neg h2, if_neg (by omega)]
theorem tb_set' {α : Type} {n k : Nat} {f g : Nat → α} {x : α} (h : ∀ p, p < n → g p = if p = k then x else f p) : (tb n f).set k x = tb n g := by
  apply List.ext_getElem
  · simp
  · intro p h1 h2
    simp only [tb_len] at h2
    rw [List.getElem_set]
    simp only [tb, List.getElem_map, List.getElem_range]
    rw [h p h2]
    by_cases e : k = p
    · rw [if_pos e, if_pos e.symm]
    · rw [if_neg e, if_neg (fun e' => e e'.symm)]
theorem prF_step {v : Nat → Rat} {n i k : Nat} (hik : k ≠ i) : ((tb n (prF v n i k)).set k (can (pV v n i k))).set i (can (pL v n i (k + 1))) = tb n (prF v n i (k + 1)) := by
  rw [tb_set' (g := fun p => if p = k then can (pV v n i k) else prF v n i k p) (fun p _ => rfl)]
  refine tb_set' fun p hp => ?_
  unfold prF
  by_cases h : p = i
  · rw [if_pos h, if_pos h]
  · rw [if_neg h, if_neg h]
    by_cases h2 : p = k
    · rw [if_pos h2, if_pos (by omega), h2]
    · rw [if_neg h2, if_neg h]
      by_cases h3 : p < k
      · rw [if_pos h3, if_pos (by omega)]
      · rw [if_neg h3, if_neg (by omega)]
theorem prF_zero (v : Nat → Rat) (n i : Nat) : (List.replicate n zQ).set i (can (shV v n i)) = tb n (prF v n i 0) := by
  have e : List.replicate n zQ = tb n fun _ => zQ := by simp [tb, List.map_const']
  rw [e]
  refine tb_set' fun p hp => ?_
  unfold prF
  by_cases h : p = i
  · rw [if_pos h, if_pos h, pL]
  · rw [if_neg h, if_neg h, if_neg (by omega)]
theorem pr_b2 (l : List RQ) (n i : Nat) (hn : n ≤ 5) (hi : i < n) (hl : l.length = 2 ^ n) (hlo : ∀ r ∈ l, r.ok 2) (sh : List RQ) (G : Nat → List RQ) {H : Mem} (h : PT H n (i + 1) (fun x => if x = i then tb n (prF (gv l) n i 0) else G x)) (c : List D) (hc : TS c) :
    ∃ z e μ, EX ip nv1 (.code (.loop [] [] game_Pairs.b2) [(0, .d (.sl 3 (el l))), (4, .d (.int .i64 (n : Int))), (6, .d (.sl 3 (el sh))), (8, .ptr 28 0), (9, .own 1099511627776 1 0 n), (10, .d (.int .i64 (i : Int))), (31, .d (.int .i64 (n : Int))), (32, .d (.int .i64 (i : Int))), (50, .d (.int .i64 (n : Int))), (51, .d (.int .i64 0))] ((28, ⟨0, false, c⟩) :: H)) = some (.st z e μ) ∧ z ≠ .normal ∧
      ∃ c' H', TS c' ∧ PT H' n (i + 1) (fun x => if x = i then tb n (prF (gv l) n i n) else G x) ∧ z = .exit 2 ∧ e = [(0, .d (.sl 3 (el l))), (4, .d (.int .i64 (n : Int))), (6, .d (.sl 3 (el sh))), (8, .ptr 28 0), (9, .own 1099511627776 1 0 n), (10, .d (.int .i64 (i : Int))), (31, .d (.int .i64 (n : Int))), (32, .d (.int .i64 (i : Int))), (50, .d (.int .i64 (n : Int))), (51, .d (.int .i64 (n : Int))), (52, .d (.bool false))] ∧ μ = (28, ⟨0, false, c'⟩) :: H' := by
  refine loop_n n (fun k e μ => ∃ c' H', TS c' ∧ PT H' n (i + 1) (fun x => if x = i then tb n (prF (gv l) n i k) else G x) ∧ e = [(0, .d (.sl 3 (el l))), (4, .d (.int .i64 (n : Int))), (6, .d (.sl 3 (el sh))), (8, .ptr 28 0), (9, .own 1099511627776 1 0 n), (10, .d (.int .i64 (i : Int))), (31, .d (.int .i64 (n : Int))), (32, .d (.int .i64 (i : Int))), (50, .d (.int .i64 (n : Int))), (51, .d (.int .i64 (k : Int)))] ∧ μ = (28, ⟨0, false, c'⟩) :: H') ?_ ?_ ⟨c, H, hc, h, rfl, rfl⟩
  · rintro k e μ hk ⟨c', H', hc', h', rfl, rfl⟩
    have hp := h'.hp
    by_cases hik : k = i
    · subst hik
      refine .inl ⟨_, _, ?_, c', H', hc', by rw [prF_same]; exact h', rfl, rfl⟩
      simp (disch := omega) [game_Pairs.b2, hk, hp.aget, hp.aput, hp.adel]
    · have hvb : ∀ s, s < 2 ^ n → Bq 2 (gv l s) := fun s hs => gv_b hlo (by omega) (by omega)
      have z := zero_ev (nv := nv1)
      obtain ⟨_, _, _, l4, -, c2, hc2, rfl, rfl, rfl⟩ := pr_b4 l n i k hn hi hk (fun e => hik e.symm) hl hlo sh hp c' hc'
      have ht := h'.tab
      have hrow := h'.row (j := i) (by omega)
      rw [if_pos rfl] at hrow
      have hget := ptC_get (n := n) (m := i + 1) (j := i) (by omega)
      have hal : (tb n (prF (gv l) n i k)).length = n := tb_len _ _
      -- the first store
      have h1 := h'.set (j := i) (by omega) ((tb n (prF (gv l) n i k)).set k (can (pV (gv l) n i k)))
      obtain ⟨H1, hH1⟩ : ∃ x, aput (1099511627776 + (i + 1)) ⟨0, false, el ((tb n (prF (gv l) n i k)).set k (can (pV (gv l) n i k)))⟩ H' = x := ⟨_, rfl⟩
      rw [hH1] at h1
      have ht1 := h1.tab
      have hrow1 := h1.row (j := i) (by omega)
      rw [if_pos rfl] at hrow1
      have hp1 := h1.hp
      -- the second one
      have h2 := h1.set (j := i) (by omega) (((tb n (prF (gv l) n i k)).set k (can (pV (gv l) n i k))).set i (can (pL (gv l) n i (k + 1))))
      obtain ⟨H2, hH2⟩ : ∃ x, aput (1099511627776 + (i + 1)) ⟨0, false, el (((tb n (prF (gv l) n i k)).set k (can (pV (gv l) n i k))).set i (can (pL (gv l) n i (k + 1))))⟩ H1 = x := ⟨_, rfl⟩
      rw [hH2] at h2
      have hp2 := h2.hp
      have hfin : PT H2 n (i + 1) (fun x => if x = i then tb n (prF (gv l) n i (k + 1)) else G x) := h2.congr fun j hj => by
        by_cases e : j = i
        · rw [if_pos e, if_pos e, prF_step hik]
        · rw [if_neg e, if_neg e, if_neg e, if_neg e]
      have hix : ix ((tb n (prF (gv l) n i k)).set k (can (pV (gv l) n i k))) i = can (pL (gv l) n i k) := by
        rw [tb_set' (g := fun p => if p = k then can (pV (gv l) n i k) else prF (gv l) n i k p) (fun p _ => rfl), tb_ix hi, if_neg (fun e => hik e.symm)]
        unfold prF
        rw [if_pos rfl]
      have pb := pV_b hn hvb hi hk (fun e => hik e.symm)
      have lb := pL_b hn hvb hi k (by omega)
      have sb := rsub_ev tzOk1 (can (pL (gv l) n i k)) (can (pV (gv l) n i k)) (can_ok lb) (can_ok pb) (by omega) (by omega) (by omega)
      rw [can_v, can_v] at sb
      have e1 : pL (gv l) n i (k + 1) = pL (gv l) n i k - pV (gv l) n i k := by rw [pL, if_neg hik]
      rw [← e1] at sb
      have hik' : ¬ (k : Int) = (i : Int) := by omega
      refine .inl ⟨_, _, ?_, c2, H2, hc2, hfin, rfl, rfl⟩
      clear hfin h2 h1 h' pb lb e1 hvb
      generalize can (pL (gv l) n i (k + 1)) = q1 at *
      generalize can (pL (gv l) n i k) = q2 at *
      generalize can (pV (gv l) n i k) = q3 at *
      generalize tb n (prF (gv l) n i k) = a at *
      have hal1 : (a.set k q3).length = n := by simpa using hal
      generalize hset : a.set k q3 = a1 at *
      generalize can 0 = q0 at *
      generalize ptC n (i + 1) = tc at *
      generalize hri : i + 1 = ri at *
      simp (disch := omega) [-vIA_o, game_Pairs.b2, hk, hik, hik', z, l4, ht, hrow, hget, hal, hset, hal1, hH1, ht1, hrow1, hH2, hix, sb, hp.aget, hp.aput, hp.adel, hp1.aget, hp1.aput, hp1.adel, hp2.aget, hp2.aput, hp2.adel]
  · rintro e μ ⟨c', H', hc', h', rfl, rfl⟩
    refine ⟨.exit 2, _, _, ?_, by simp, c', H', hc', h', rfl, rfl, rfl⟩
    simp [game_Pairs.b2] <;> first | rfl | exact ⟨rfl, rfl⟩
theorem shV_b2 {l : List RQ} {n i : Nat} (hn : n ≤ 5) (hl : l.length = 2 ^ n) (hlo : ∀ r ∈ l, r.ok 2) (hi : i < n) : Bq 900 (shV (gv l) n i) :=
  (shV_b hn (fun s hs => gv_b hlo (by omega) (by omega)) hi).mono (by omega)
theorem pr_b0 (l : List RQ) (n : Nat) (hn : n ≤ 5) (hl : l.length = 2 ^ n) (hlo : ∀ r ∈ l, r.ok 2) {H : Mem} (h : PT H n 0 (fun _ => [])) (c : List D) (hc : TS c) :
    ∃ z e μ, EX ip nv1 (.code (.loop [] [] game_Pairs.b0) [(0, .d (.sl 3 (el l))), (4, .d (.int .i64 (n : Int))), (6, .d (.sl 3 (el (shL l n)))), (8, .ptr 28 0), (9, .own 1099511627776 1 0 n), (31, .d (.int .i64 (n : Int))), (32, .d (.int .i64 0))] ((28, ⟨0, false, c⟩) :: H)) = some (.st z e μ) ∧ z ≠ .normal ∧
      ∃ c' H', TS c' ∧ PT H' n n (fun x => tb n (prF (gv l) n x n)) ∧ z = .exit 0 ∧ e = [(0, .d (.sl 3 (el l))), (4, .d (.int .i64 (n : Int))), (6, .d (.sl 3 (el (shL l n)))), (8, .ptr 28 0), (9, .own 1099511627776 1 0 n), (31, .d (.int .i64 (n : Int))), (32, .d (.int .i64 (n : Int))), (33, .d (.bool false))] ∧ μ = (28, ⟨0, false, c'⟩) :: H' := by
  refine loop_n n (fun i e μ => ∃ c' H', TS c' ∧ PT H' n i (fun x => tb n (prF (gv l) n x n)) ∧ e = [(0, .d (.sl 3 (el l))), (4, .d (.int .i64 (n : Int))), (6, .d (.sl 3 (el (shL l n)))), (8, .ptr 28 0), (9, .own 1099511627776 1 0 n), (31, .d (.int .i64 (n : Int))), (32, .d (.int .i64 (i : Int)))] ∧ μ = (28, ⟨0, false, c'⟩) :: H') ?_ ?_ ⟨c, H, hc, h.congr (fun j hj => by omega), rfl, rfl⟩
  · rintro i e μ hi ⟨c', H', hc', h', rfl, rfl⟩
    have hp := h'.hp
    have hcnt : cntOf H' = 1099511627776 + (i + 1) := h'.cnt
    have hge : 1099511627776 ≤ cntOf H' := by omega
    have g1 : ∀ v x, hput v ((28, x) :: H') = (28, x) :: hput v H' := fun v x => hput_lit (by decide) hge
    have f0 : ∀ x, cntOf ((28, x) :: H') = 1099511627776 + (i + 1) := fun x => by rw [cntOf_lit (by decide)]; exact hcnt
    -- the new row
    obtain ⟨H0, hH0⟩ : ∃ x, hput ⟨0, false, el (List.replicate n zQ)⟩ H' = x := ⟨_, rfl⟩
    have hs0 := HS.hput h' ⟨0, false, el (List.replicate n zQ)⟩
    have hp0 : Hp H0 := hH0 ▸ hs0.hp
    have ht0 : aget H0 1099511627776 = some ⟨0, false, ptC n i⟩ := by
      rw [← hH0]
      have := hs0.at_ 0
      simpa [fput, pF] using this
    have hr0 : aget H0 (1099511627776 + (i + 1)) = some ⟨0, false, el (List.replicate n zQ)⟩ := by
      rw [← hH0]
      have := hs0.at_ (i + 1)
      simpa [fput] using this
    have hset0 := ptC_set (n := n) (m := i) hi
    have hcl0 := ptC_len (n := n) (m := i) (by omega)
    have h1 := h'.new hi (List.replicate n zQ)
    rw [hH0] at h1
    obtain ⟨H1, hH1⟩ : ∃ x, aput 1099511627776 ⟨0, false, ptC n (i + 1)⟩ H0 = x := ⟨_, rfl⟩
    rw [hH1] at h1
    have hp1 := h1.hp
    have ht1 := h1.tab
    have hr1 := h1.row (j := i) (by omega)
    rw [if_pos rfl] at hr1
    have hget1 := ptC_get (n := n) (m := i + 1) (j := i) (by omega)
    have h2 := h1.set (j := i) (by omega) ((List.replicate n zQ).set i (can (shV (gv l) n i)))
    obtain ⟨H2, hH2⟩ : ∃ x, aput (1099511627776 + (i + 1)) ⟨0, false, el ((List.replicate n zQ).set i (can (shV (gv l) n i)))⟩ H1 = x := ⟨_, rfl⟩
    rw [hH2] at h2
    have hp2 := h2.hp
    have h2' : PT H2 n (i + 1) (fun x => if x = i then tb n (prF (gv l) n i 0) else tb n (prF (gv l) n x n)) := h2.congr fun j hj => by
      by_cases e : j = i
      · rw [if_pos e, if_pos e, prF_zero]
      · rw [if_neg e, if_neg e, if_neg e]
    obtain ⟨_, _, _, l2, -, c2, H3, hc2, h3, rfl, rfl, rfl⟩ := pr_b2 l n i hn hi hl hlo (shL l n) (fun x => tb n (prF (gv l) n x n)) h2' c' hc'
    have hp3 := h3.hp
    have hsx : ix (shL l n) i = can (shV (gv l) n i) := tb_ix hi
    have hsl : (shL l n).length = n := by simp [shL]
    have hrl : (List.replicate n zQ).length = n := by simp
    have hmk : (List.replicate n [D.bool false, .sl 1 [], .sl 1 []]).flatten = el (List.replicate n zQ) := by
      have : ∀ n, (List.replicate n [D.bool false, .sl 1 [], .sl 1 []]).flatten = el (List.replicate n zQ) := by
        intro n
        induction n with
        | zero => rfl
        | succ n ih => rw [List.replicate_succ, List.flatten_cons, ih, List.replicate_succ, el_cons]; rfl
      exact this n
    have hby : 56 * n ≤ 281474976710656 := by omega
    have hn63 : (n : Int) < 9223372036854775808 := by omega
    have hst : ∀ x, setAt (ptC n i) i [x] = (ptC n i).set i x := fun x => by
      have : i < (ptC n i).length := by omega
      simp [setAt]
    refine .inl ⟨_, _, ?_, c2, H3, hc2, h3.congr (fun j hj => by
      by_cases e : j = i
      · rw [if_pos e, e]
      · rw [if_neg e]), rfl, rfl⟩
    clear h2 h2' h1 h3 hs0 h' h
    generalize can (shV (gv l) n i) = q at *
    generalize shL l n = shl at *
    generalize List.replicate n zQ = rp at *
    generalize ptC n (i + 1) = tc1 at *
    generalize ptC n i = tc at *
    generalize hri : i + 1 = ri at *
    have hi1 : i + 1 ≤ n := by omega
    simp (disch := omega) [-vIA_o, game_Pairs.b0, hi, hi1, g1, f0, hcnt, hmk, hby, hn63, hH0, ht0, hr0, hst, hset0, hcl0, hH1, ht1, hr1, hget1, hH2, hsx, hsl, hrl, l2, hp.aget, hp.aput, hp.adel, hp0.aget, hp0.aput, hp0.adel, hp1.aget, hp1.aput, hp1.adel, hp2.aget, hp2.aput, hp2.adel, hp3.aget, hp3.aput, hp3.adel]
    omega
  · rintro e μ ⟨c', H', hc', h', rfl, rfl⟩
    refine ⟨.exit 0, _, _, ?_, by simp, c', H', hc', h', rfl, rfl, rfl⟩
    simp [game_Pairs.b0] <;> first | rfl | exact ⟨rfl, rfl⟩
/-- The table of all pairs. -/
def pT (v : Nat → Rat) (n : Nat) : Tb := fun i j => if j = i then pL v n i n else pV v n i j
theorem pT_row (v : Nat → Rat) {n i : Nat} : tb n (prF v n i n) = rw' n (pT v n i) := by
  unfold tb rw'
  apply List.map_congr_left
  intro j hj
  have hj := List.mem_range.1 hj
  unfold prF pT
  by_cases e : j = i
  · rw [if_pos e, if_pos e]
  · rw [if_neg e, if_neg e, if_pos hj]
theorem pairs_bad (l : List RQ) (hl : l.length ≤ 33) (hn : gmN l.length = none) : EX ip nv1 (.call F.game_Pairs [.d (.sl 3 (el l))] []) = some (.ret (.tp [.d (.sl 1 []), .d (.int .i64 1)]) []) := by
  rw [S_call game_Pairs.ip rfl]
  have p := players_ev (nv := nv1) l hl
  rw [hn] at p
  simp only at p
  simp (disch := omega) [game_Pairs, p]
theorem pairs_ev (l : List RQ) (n : Nat) (hl33 : l.length ≤ 33) (hg : gmN l.length = some n) (hlo : ∀ r ∈ l, r.ok 2) : EX ip nv1 (.call F.game_Pairs [.d (.sl 3 (el l))] []) = some (.ret (.tp [.d (.sl 1 (el (tbl n n (pT (gv l) n)))), .d (.int .i64 0)]) []) := by
  rw [S_call game_Pairs.ip rfl]
  have p := players_ev (nv := nv1) l hl33
  rw [hg] at p
  simp only at p
  have hn6 := gmN_lt ⟨l.length, by omega⟩ n hg
  have hlen := (gmN_some ⟨l.length, by omega⟩ ⟨n, hn6⟩ hg).1
  simp only at hlen
  have sh := shap_ev l n 2 hl33 hg hlo (by omega) (by omega)
  have nw := new_ev
  have h0 := PT.nil n (fun _ => [])
  obtain ⟨H0, hH0⟩ : ∃ x, hput ⟨0, false, List.replicate n (.sl 3 [])⟩ [] = x := ⟨_, rfl⟩
  rw [hH0] at h0
  have hp0 := h0.hp
  obtain ⟨_, _, _, l0, -, c2, H1, hc2, h1, rfl, rfl, rfl⟩ := pr_b0 l n (by omega) hlen hlo h0 c0 (.inl rfl)
  have hp1 := h1.hp
  have g1 : ∀ v x, hput v ((28, x) :: []) = (28, x) :: hput v [] := fun v x => hput_lit (by decide) (by decide)
  have ht1 := h1.tab
  have hr1 := fun (i : Nat) (hi : i < n) => h1.row (j := i) hi
  have hpt : ptC n n = refs (fun j => j + 1) n n := by
    unfold ptC
    rw [Nat.sub_self]
    exact List.append_nil _
  rw [hpt] at ht1
  have dd : asDD H1 1 (.own (1099511627776 + 0) 1 0 n) = some (.sl 1 (el (tbl n n (pT (gv l) n)))) := asDD_tab (ids := fun j => j + 1) (f := pT (gv l) n) ht1 fun i hi => by rw [hr1 i hi, pT_row]
  have dd' : asDD H1 1 (.own 1099511627776 1 0 n) = some (.sl 1 (el (tbl n n (pT (gv l) n)))) := dd
  have hby : 24 * n ≤ 281474976710656 := by omega
  have hn63 : (n : Int) < 9223372036854775808 := by omega
  have hmk : (List.replicate n [D.sl 3 []]).flatten = List.replicate n (D.sl 3 []) := by
    have : ∀ n, (List.replicate n [D.sl 3 []]).flatten = List.replicate n (D.sl 3 []) := by
      intro n
      induction n with
      | zero => rfl
      | succ n ih => rw [List.replicate_succ, List.flatten_cons, ih, List.replicate_succ]; rfl
    exact this n
  clear dd
  generalize shL l n = shl at *
  generalize tbl n n (pT (gv l) n) = tt at *
  generalize List.replicate n (D.sl 3 []) = rp at *
  generalize c0 = cz at *
  have hpn : hpart [] = [] := rfl
  have hnn : npart [] = [] := rfl
  have hc0 : cntOf [] = 1099511627776 := rfl
  simp (disch := omega) [-vIA_o, game_Pairs, hc0, p, sh, nw, hmk, hby, hn63, g1, hH0, l0, dd', hp0.aget, hp0.aput, hp0.adel, hp1.aget, hp1.aput, hp1.adel, hp1.keeps]
end Go.Proofs.YtgigaimaaijalaaGreatDoor
