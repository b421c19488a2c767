/- What each player gets: game.Shapley, and the example of chapter 19. -/
import Derived.Test.YtgigaimaaijalaaGreatDoorGa
import Derived.Test.YtgigaimaaijalaaGreatDoorGc
import Derived.Test.YtgigaimaaijalaaGreatDoorZz
import Derived.Test.YtgigaimaaijalaaGreatDoorWi
set_option linter.unusedSimpArgs false
set_option linter.unusedVariables false
namespace Go.Proofs.YtgigaimaaijalaaGreatDoor
open Go Go.Proofs.R
set_option maxRecDepth 10000
/-- What a coalition is worth. -/
def gv (l : List RQ) (s : Nat) : Rat := (ix l s).v
/-- What a player adds, weighed, over the coalitions below one. -/
def shS (v : Nat → Rat) (n i : Nat) : Nat → Rat
  | 0 => 0
  | s + 1 => if s.testBit i then shS v n i s else shS v n i s + wq (cntN s 5) (n - cntN s 5 - 1) n * (v (s + 2 ^ i) - v s)
def shV (v : Nat → Rat) (n i : Nat) : Rat := shS v n i (2 ^ n)
def shL (l : List RQ) (n : Nat) : List RQ := tb n fun i => can (shV (gv l) n i)
theorem set_facts : ∀ n : Fin 6, ∀ i : Fin 5, ∀ s : Fin 32, i.val < n.val → s.val < 2 ^ n.val → s.val.testBit i.val = false → cntN s.val 5 < n.val ∧ cntN s.val n.val = cntN s.val 5 ∧ s.val ||| 2 ^ i.val = s.val + 2 ^ i.val ∧ s.val + 2 ^ i.val < 2 ^ n.val := by decide +kernel
theorem gv_b {l : List RQ} {K : Nat} (hk : ∀ r ∈ l, r.ok K) (h1 : 1 ≤ K) {s : Nat} (hs : s < l.length) : Bq K (gv l s) := Bq.v (ixq_ok hk hs) h1
theorem shS_b {v : Nat → Rat} {n K : Nat} (hn : n ≤ 5) (hv : ∀ s, s < 2 ^ n → Bq K (v s)) {i : Nat} (hi : i < n) : ∀ s, s ≤ 2 ^ n → Bq (1 + (2 * K + 22) * s) (shS v n i s)
  | 0, _ => Bq.zero
  | s + 1, h => by
    have ih := shS_b hn hv hi s (by omega)
    have hp : 2 ^ n ≤ 2 ^ 5 := Nat.pow_le_pow_right (by decide) hn
    rw [shS]
    have e : 1 + (2 * K + 22) * (s + 1) = 1 + (2 * K + 22) * s + (2 * K + 22) := by rw [Nat.mul_add]; omega
    split
    · exact ih.mono (by omega)
    · rename_i hb
      obtain ⟨f1, f2, f3, f4⟩ := set_facts ⟨n, by omega⟩ ⟨i, by omega⟩ ⟨s, by omega⟩ hi (by simp only; omega) (by simpa using hb)
      simp only at f1 f4
      exact (ih.add ((wq_b (a := cntN s 5) (b := n - cntN s 5 - 1) (c := n) (by omega) (by omega) (by omega)).mul ((hv _ f4).sub (hv s (by omega))))).mono (by omega)
theorem shV_b {v : Nat → Rat} {n K : Nat} (hn : n ≤ 5) (hv : ∀ s, s < 2 ^ n → Bq K (v s)) {i : Nat} (hi : i < n) : Bq (1 + (2 * K + 22) * 32) (shV v n i) := by
  have hp : 2 ^ n ≤ 2 ^ 5 := Nat.pow_le_pow_right (by decide) hn
  exact (shS_b hn hv hi (2 ^ n) (Nat.le_refl _)).mono (Nat.add_le_add_left (Nat.mul_le_mul_left _ hp) _)
theorem shap_b2 (l : List RQ) (n i K : Nat) (hn : n ≤ 5) (hi : i < n) (hl : l.length = 2 ^ n) (hk : ∀ r ∈ l, r.ok K) (h1 : 1 ≤ K) (hK : K ≤ 100000) (B8 B23 : Blk) (m8 : Nat) :
    ∃ z e μ, EX ip nv1 (.code (.loop [] [] game_Shapley.b2) [(0, .d (.sl 3 (el l))), (6, .d (.sl 3 (el (wL n n)))), (8, .own 8 3 0 m8), (9, .d (.int .i64 (i : Int))), (10, .ptr 10 0), (28, .d (.int .i64 (n : Int))), (29, .d (.int .i64 (i : Int))), (34, .d (.int .i64 (l.length : Int))), (35, .d (.int .i64 0))] [(8, B8), (10, ⟨0, true, (can 0).c⟩), (23, B23)]) = some (.st z e μ) ∧ z ≠ .normal ∧
    z = .exit 2 ∧ e = [(0, .d (.sl 3 (el l))), (6, .d (.sl 3 (el (wL n n)))), (8, .own 8 3 0 m8), (9, .d (.int .i64 (i : Int))), (10, .ptr 10 0), (28, .d (.int .i64 (n : Int))), (29, .d (.int .i64 (i : Int))), (34, .d (.int .i64 (l.length : Int))), (35, .d (.int .i64 (l.length : Int))), (36, .d (.bool false))] ∧ μ = [(8, B8), (10, ⟨0, true, (can (shV (gv l) n i)).c⟩), (23, B23)] := by
  have hp : 2 ^ n ≤ 2 ^ 5 := Nat.pow_le_pow_right (by decide) hn
  refine loop_n l.length (fun s e μ => ∃ q : RQ, q = can (shS (gv l) n i s) ∧ e = [(0, .d (.sl 3 (el l))), (6, .d (.sl 3 (el (wL n n)))), (8, .own 8 3 0 m8), (9, .d (.int .i64 (i : Int))), (10, .ptr 10 0), (28, .d (.int .i64 (n : Int))), (29, .d (.int .i64 (i : Int))), (34, .d (.int .i64 (l.length : Int))), (35, .d (.int .i64 (s : Int)))] ∧ μ = [(8, B8), (10, ⟨0, true, q.c⟩), (23, B23)]) ?_ ?_ ⟨_, rfl, rfl, rfl⟩
  · rintro s e μ hs ⟨q, hq, rfl, rfl⟩
    have hvb : ∀ s, s < 2 ^ n → Bq K (gv l s) := fun s hs => gv_b hk h1 (by omega)
    have hs32 : s < 32 := by omega
    have hl32 : l.length ≤ 32 := by omega
    have sh := i_shrN (s := s) (i := i) (by omega) (by omega)
    have ha := ibits_and (a := s / 2 ^ i) (b := 1) (by have := Nat.div_le_self s (2 ^ i); omega) (by omega)
    rw [show s / 2 ^ i &&& 1 = s / 2 ^ i % 2 from Nat.and_one_is_mod _] at ha
    have tb : s.testBit i = decide (s / 2 ^ i % 2 = 1) := Nat.testBit_eq_decide_div_mod_eq
    by_cases c : s / 2 ^ i % 2 = 1
    · have tb' : s.testBit i = true := by rw [tb]; simpa using c
      rw [c] at ha
      refine .inl ⟨_, _, ?_, q, by rw [shS, if_pos tb', hq], rfl, rfl⟩
      clear tb tb' hq hvb hp hl
      generalize s / 2 ^ i = d at *
      have ha' : bitsD .and .i64 (d : Int) 1 = 1 := ha
      simp (disch := omega) [game_Shapley.b2, hs, sh, ha', -vBin_shr]
    · have tb' : s.testBit i = false := by rw [tb]; simpa using c
      have c0 : s / 2 ^ i % 2 = 0 := by omega
      rw [c0] at ha
      obtain ⟨f1, f2, f3, f4⟩ := set_facts ⟨n, by omega⟩ ⟨i, by omega⟩ ⟨s, by omega⟩ hi (by simp only; omega) tb'
      simp only at f1 f3 f4
      have s1 := i_shl1 (n := i) (by omega)
      have ho := ibits_or (a := s) (b := 2 ^ i) (by omega) (by omega)
      rw [f3] at ho
      have on : EX ip nv1 (.call F.bits_OnesCount [.d (u s)] []) = some (.ret (.d (.int .i64 (cntN s 5 : Nat))) []) := ones_ev s (by omega)
      have sb := rsub_ev tzOk1 (ix l (s + 2 ^ i)) (ix l s) (ixq_ok hk (by omega)) (ixq_ok hk hs) h1 h1 (by omega)
      have hd := (hvb _ f4).sub (hvb s (by omega))
      have wb := wq_b (a := cntN s 5) (b := n - cntN s 5 - 1) (c := n) (by omega) (by omega) (by omega)
      have ml := rmul_ev tzOk1 (can (wq (cntN s 5) (n - cntN s 5 - 1) n)) (can (gv l (s + 2 ^ i) - gv l s)) (can_ok wb) (can_ok hd) (by omega) (by omega) (by omega)
      have sB := shS_b hn hvb hi s (by omega)
      have hle : (2 * K + 22) * s ≤ (2 * K + 22) * 32 := Nat.mul_le_mul_left _ (by omega)
      have ad := radd_ev tzOk1 (can (shS (gv l) n i s)) (can (wq (cntN s 5) (n - cntN s 5 - 1) n * (gv l (s + 2 ^ i) - gv l s))) (can_ok sB) (can_ok (wb.mul hd)) (by omega) (by omega) (by omega)
      rw [can_v, can_v] at ml ad
      have e1 : shS (gv l) n i (s + 1) = shS (gv l) n i s + wq (cntN s 5) (n - cntN s 5 - 1) n * (gv l (s + 2 ^ i) - gv l s) := by rw [shS, tb']; rfl
      rw [← e1, ← hq] at ad
      have hx := wL_ix (n := n) f1
      have hwl := wL_len n n
      have sb' : EX ip nv1 (.call F.ratio_Sub [.d (.ag (ix l (s + 2 ^ i)).c), .d (.ag (ix l s).c)] []) = some (.ret (.d (.ag (can (gv l (s + 2 ^ i) - gv l s)).c)) []) := sb
      refine .inl ⟨_, _, ?_, can (shS (gv l) n i (s + 1)), rfl, rfl, rfl⟩
      clear tb tb' hq hvb hp e1 sB wb hd sb f2 hle c c0
      generalize can (shS (gv l) n i (s + 1)) = p1 at *
      generalize can (wq (cntN s 5) (n - cntN s 5 - 1) n * (gv l (s + 2 ^ i) - gv l s)) = p2 at *
      generalize can (wq (cntN s 5) (n - cntN s 5 - 1) n) = p3 at *
      generalize can (gv l (s + 2 ^ i) - gv l s) = p4 at *
      have f4' : s + 2 ^ i < l.length := by omega
      clear f4 hl f3
      generalize s + 2 ^ i = t at *
      generalize 2 ^ i = p5 at *
      generalize s / p5 = d at *
      generalize cntN s 5 = cn at *
      generalize wL n n = wl at *
      have ha' : bitsD .and .i64 (d : Int) 1 = 0 := ha
      simp (disch := omega) [game_Shapley.b2, hs, sh, ha', s1, ho, on, sb', ml, ad, hx, hwl, f4', f1, -vBin_shr, -vBin_shl]
  · rintro e μ ⟨q, hq, rfl, rfl⟩
    subst hq
    exact ⟨.exit 2, _, _, by simp [game_Shapley.b2] <;> first | rfl | exact ⟨rfl, rfl⟩, by simp, rfl, rfl, by rw [hl]; rfl⟩
theorem shap_b0 (l : List RQ) (n K : Nat) (hn : n ≤ 5) (hl : l.length = 2 ^ n) (hk : ∀ r ∈ l, r.ok K) (h1 : 1 ≤ K) (hK : K ≤ 100000) (B23 : Blk) :
    ∃ z e μ, EX ip nv1 (.code (.loop [] [] game_Shapley.b0) [(0, .d (.sl 3 (el l))), (6, .d (.sl 3 (el (wL n n)))), (8, .own 8 3 0 0), (28, .d (.int .i64 (n : Int))), (29, .d (.int .i64 0))] [(8, ⟨0, false, []⟩), (23, B23)]) = some (.st z e μ) ∧ z ≠ .normal ∧
    z = .exit 0 ∧ e = [(0, .d (.sl 3 (el l))), (6, .d (.sl 3 (el (wL n n)))), (8, .own 8 3 0 n), (28, .d (.int .i64 (n : Int))), (29, .d (.int .i64 (n : Int))), (30, .d (.bool false))] ∧ μ = [(8, ⟨0, false, el (shL l n)⟩), (23, B23)] := by
  refine loop_n n (fun i e μ => ∃ a : List RQ, a = tb i (fun i => can (shV (gv l) n i)) ∧ e = [(0, .d (.sl 3 (el l))), (6, .d (.sl 3 (el (wL n n)))), (8, .own 8 3 0 a.length), (28, .d (.int .i64 (n : Int))), (29, .d (.int .i64 (i : Int)))] ∧ μ = [(8, ⟨0, false, el a⟩), (23, B23)]) ?_ ?_ ⟨[], rfl, rfl, rfl⟩
  · rintro i e μ hi ⟨a, ha, rfl, rfl⟩
    have hal : a.length = i := by rw [ha]; simp
    have z := zero_ev (nv := nv1)
    obtain ⟨_, _, _, hr, -, rfl, rfl, rfl⟩ := shap_b2 l n i K hn hi hl hk h1 hK ⟨0, false, el a⟩ B23 a.length
    refine .inl ⟨_, _, ?_, a ++ [can (shV (gv l) n i)], by rw [ha, tb_succ], rfl, rfl⟩
    clear ha
    generalize can (shV (gv l) n i) = q at *
    generalize wL n n = wl at *
    generalize can 0 = q0 at *
    simp (disch := omega) [game_Shapley.b0, hi, z, hr]
  · rintro e μ ⟨a, ha, rfl, rfl⟩
    have hal : a.length = n := by rw [ha]; simp
    rw [hal]
    exact ⟨.exit 0, _, _, by simp [game_Shapley.b0] <;> first | rfl | exact ⟨rfl, rfl⟩, by simp, rfl, rfl, by rw [ha]; rfl⟩
theorem shap_bad (l : List RQ) (hl : l.length ≤ 33) (hn : gmN l.length = none) : EX ip nv1 (.call F.game_Shapley [.d (.sl 3 (el l))] []) = some (.ret (.tp [.d (.sl 3 []), .d (.int .i64 1)]) []) := by
  rw [S_call game_Shapley.ip rfl]
  have p := players_ev (nv := nv1) l hl
  rw [hn] at p
  simp only at p
  simp (disch := omega) [game_Shapley, p]
theorem shap_ev (l : List RQ) (n K : Nat) (hl : l.length ≤ 33) (hn : gmN l.length = some n) (hk : ∀ r ∈ l, r.ok K) (h1 : 1 ≤ K) (hK : K ≤ 100000) : EX ip nv1 (.call F.game_Shapley [.d (.sl 3 (el l))] []) = some (.ret (.tp [.d (.sl 3 (el (shL l n))), .d (.int .i64 0)]) []) := by
  rw [S_call game_Shapley.ip rfl]
  have p := players_ev (nv := nv1) l hl
  rw [hn] at p
  simp only at p
  have hn6 := gmN_lt ⟨l.length, by omega⟩ n hn
  have hlen := (gmN_some ⟨l.length, by omega⟩ ⟨n, hn6⟩ hn).1
  simp only at hlen
  by_cases h0 : n = 0
  · subst h0
    simp (disch := omega) [game_Shapley, p, shL, tb]
  · have nw := new_ev
    have al := allT_ev (c := c0) (.inl rfl) n (by omega) (by omega)
    obtain ⟨_, _, _, hr, -, rfl, rfl, rfl⟩ := shap_b0 l n K (by omega) hlen hk h1 hK ⟨0, false, c1⟩
    have hsl : (shL l n).length = n := by simp [shL]
    generalize shL l n = a at *
    generalize wL n n = wl at *
    generalize c0 = cz at *
    generalize c1 = co at *
    simp (disch := omega) [game_Shapley, p, nw, al, hr, h0, hsl]
theorem shL_ok {l : List RQ} {n K : Nat} (hn : n ≤ 5) (hl : l.length = 2 ^ n) (hk : ∀ r ∈ l, r.ok K) (h1 : 1 ≤ K) : ∀ r ∈ shL l n, r.ok (1 + (2 * K + 22) * 32) := by
  intro r hr
  obtain ⟨i, hi, rfl⟩ := tb_mem hr
  exact can_ok (shV_b hn (fun s hs => gv_b hk h1 (by omega)) hi)
theorem setAt_len {α : Type} : ∀ (x l : List α) (i : Nat), (setAt l i x).length = l.length
  | [], _, _ => rfl
  | a :: r, l, i => by rw [setAt, setAt_len r]; simp
theorem awake19_ev : EX ip nv1 (.call F.dendronlaw19_awake [] []) = some (.ret (.d (.bool true)) []) := by
  rw [S_call dendronlaw19_awake.ip rfl]
  have o0 := rof_ev (nv := nv1) 0 (by omega) (by omega)
  have o1 := rof_ev (nv := nv1) 1 (by omega) (by omega)
  have o2 := rof_ev (nv := nv1) 2 (by omega) (by omega)
  have o3 := rof_ev (nv := nv1) 3 (by omega) (by omega)
  have o5 := rof_ev (nv := nv1) 5 (by omega) (by omega)
  have ob : ∀ x : Int, x.natAbs < 10 → (can (x : Rat)).ok 2 := fun x h => can_ok ⟨by rw [Rat.num_intCast]; simp only [pw]; omega, by rw [Rat.den_intCast]; decide⟩
  have sh := shap_ev [can ((0 : Int) : Rat), can ((1 : Int) : Rat), can ((2 : Int) : Rat), can ((5 : Int) : Rat)] 2 2 (by simp) rfl (by
    intro r hr
    simp only [List.mem_cons, List.not_mem_nil, or_false] at hr
    rcases hr with rfl | rfl | rfl | rfl
    · exact ob 0 (by decide)
    · exact ob 1 (by decide)
    · exact ob 2 (by decide)
    · exact ob 5 (by decide)) (by omega) (by omega)
  have e : shL [can ((0 : Int) : Rat), can ((1 : Int) : Rat), can ((2 : Int) : Rat), can ((5 : Int) : Rat)] 2 = [can ((2 : Int) : Rat), can ((3 : Int) : Rat)] := by
    generalize hL : [can ((0 : Int) : Rat), can ((1 : Int) : Rat), can ((2 : Int) : Rat), can ((5 : Int) : Rat)] = L
    have g0 : gv L 0 = ((0 : Int) : Rat) := by rw [← hL]; exact can_v _
    have g1 : gv L 1 = ((1 : Int) : Rat) := by rw [← hL]; exact can_v _
    have g2 : gv L 2 = ((2 : Int) : Rat) := by rw [← hL]; exact can_v _
    have g3 : gv L 3 = ((5 : Int) : Rat) := by rw [← hL]; exact can_v _
    have e1 : shV (gv L) 2 0 = ((2 : Int) : Rat) := by
      have : shV (gv L) 2 0 = 0 + wq (cntN 0 5) (2 - cntN 0 5 - 1) 2 * (gv L 1 - gv L 0) + wq (cntN 2 5) (2 - cntN 2 5 - 1) 2 * (gv L 3 - gv L 2) := rfl
      rw [this, g0, g1, g2, g3]
      decide +kernel
    have e2 : shV (gv L) 2 1 = ((3 : Int) : Rat) := by
      have : shV (gv L) 2 1 = 0 + wq (cntN 0 5) (2 - cntN 0 5 - 1) 2 * (gv L 2 - gv L 0) + wq (cntN 1 5) (2 - cntN 1 5 - 1) 2 * (gv L 3 - gv L 1) := rfl
      rw [this, g0, g1, g2, g3]
      decide +kernel
    have : shL L 2 = [can (shV (gv L) 2 0), can (shV (gv L) 2 1)] := rfl
    rw [this, e1, e2]
  rw [e] at sh
  have s2 := rsame_ev tzOk1 (can ((2 : Int) : Rat)) (can ((2 : Int) : Rat)) (ob 2 (by decide)) (ob 2 (by decide)) (by omega) (by omega) (by omega)
  have s3 := rsame_ev tzOk1 (can ((3 : Int) : Rat)) (can ((3 : Int) : Rat)) (ob 3 (by decide)) (ob 3 (by decide)) (by omega) (by omega) (by omega)
  simp only [decide_true] at s2 s3
  clear e ob
  generalize can ((0 : Int) : Rat) = q0 at *
  generalize can ((1 : Int) : Rat) = q1 at *
  generalize can ((2 : Int) : Rat) = q2 at *
  generalize can ((3 : Int) : Rat) = q3 at *
  generalize can ((5 : Int) : Rat) = q5 at *
  have hset : setAt (setAt (setAt (setAt [D.bool false, .sl 1 [], .sl 1 [], .bool false, .sl 1 [], .sl 1 [], .bool false, .sl 1 [], .sl 1 [], .bool false, .sl 1 [], .sl 1 []] 0 q0.c) 3 q1.c) 6 q2.c) 9 q5.c = el [q0, q1, q2, q5] := rfl
  have v0 : List.take 3 (el [q2, q3]) = q2.c := rfl
  have v1 : List.take 3 (List.drop 3 (el [q2, q3])) = q3.c := rfl
  simp (disch := omega) [dendronlaw19_awake, o0, o1, o2, o3, o5, sh, s2, s3, hset, setAt_len, v0, v1]
end Go.Proofs.YtgigaimaaijalaaGreatDoor
