/- GameShares: the law evaluated. -/
import Derived.Test.YtnmbpainnkdonaaGreatDoorGw
set_option linter.unusedSimpArgs false
set_option linter.unusedVariables false
namespace Go.Proofs.YtnmbpainnkdonaaGreatDoor
open Go Go.Proofs.R
set_option maxRecDepth 10000
section
variable {nv : R.Nv}
theorem within_ev (a b n : Nat) (ha : a < 1000) (hb : b < 1000) (hn : n ≤ 12) : EX ip nv (.call F.dendronlaw19_within [.d (.int .i64 (a : Int)), .d (.int .i64 (b : Int)), .d (.int .i64 (n : Int))] []) = some (.ret (.d (.bool (win a b n))) []) := by
  rw [S_call dendronlaw19_within.ip rfl]
  obtain ⟨z, e, μ, hr, -, h⟩ : ∃ z e μ, EX ip nv (.code (.loop [] [] dendronlaw19_within.b0) [(0, .d (.int .i64 (a : Int))), (1, .d (.int .i64 (b : Int))), (2, .d (.int .i64 (n : Int))), (7, .d (.int .i64 0))] []) = some (.st z e μ) ∧ z ≠ .normal ∧
      ((z = .exit 0 ∧ e = [(0, .d (.int .i64 (a : Int))), (1, .d (.int .i64 (b : Int))), (2, .d (.int .i64 (n : Int))), (7, .d (.int .i64 (n : Int))), (10, .d (.bool false))] ∧ μ = [] ∧ win a b n = true) ∨ (z = .ret ∧ e = [(6, .d (.bool false))] ∧ μ = [] ∧ win a b n = false)) := by
    refine loop_n n (fun i e μ => e = [(0, .d (.int .i64 (a : Int))), (1, .d (.int .i64 (b : Int))), (2, .d (.int .i64 (n : Int))), (7, .d (.int .i64 (i : Int)))] ∧ μ = [] ∧ win a b i = true) ?_ ?_ ⟨rfl, rfl, rfl⟩
    · rintro i e μ hi ⟨rfl, rfl, hw⟩
      have n1 := in_ev (nv := nv) a i (by omega) (by omega)
      have n2 := in_ev (nv := nv) b i (by omega) (by omega)
      have ws : win a b (i + 1) = (win a b i && (!a.testBit i || b.testBit i)) := by simp [win, List.range_succ]
      rw [hw] at ws
      cases c1 : a.testBit i
      · rw [c1] at n1 ws
        refine .inl ⟨_, _, ?_, rfl, rfl, by rw [ws]; rfl⟩
        simp (disch := omega) [dendronlaw19_within.b0, hi, n1]
      · cases c2 : b.testBit i
        · rw [c1] at n1
          rw [c2] at n2
          refine .inr ⟨.ret, _, _, ?_, by simp, .inr ⟨rfl, rfl, rfl, ?_⟩⟩
          · simp (disch := omega) [dendronlaw19_within.b0, hi, n1, n2] <;> first | rfl | exact ⟨rfl, rfl⟩
          · cases hh : win a b n
            · rfl
            · simp only [win, List.all_eq_true, List.mem_range] at hh
              have := hh i hi
              rw [c1, c2] at this
              cases this
        · rw [c1] at n1 ws
          rw [c2] at n2 ws
          refine .inl ⟨_, _, ?_, rfl, rfl, by rw [ws]; rfl⟩
          simp (disch := omega) [dendronlaw19_within.b0, hi, n1, n2]
    · rintro e μ ⟨rfl, rfl, hw⟩
      exact ⟨.exit 0, _, [], by simp [dendronlaw19_within.b0] <;> rfl, by simp, .inl ⟨rfl, rfl, rfl, hw⟩⟩
  rcases h with ⟨rfl, rfl, rfl, hw⟩ | ⟨rfl, rfl, rfl, hw⟩
  · rw [hw]; simp (disch := omega) [dendronlaw19_within, hr]
  · rw [hw]; simp (disch := omega) [dendronlaw19_within, hr]
/-- A sum over the sets within one, up to a place. -/
def smW (n : Nat) (f : Nat → Rat) (s k : Nat) : Rat := sm k fun t => if win t s n then f t else 0
theorem smW_b {n s K m : Nat} {f : Nat → Rat} (hf : ∀ t, t < m → Bq K (f t)) (h1 : 1 ≤ K) (k : Nat) (hk : k ≤ m) : Bq (1 + (K + 1) * k) (smW n f s k) := by
  refine sm_b k fun t ht => ?_
  split
  · exact hf t (by omega)
  · exact Bq.zero.mono h1
theorem ls_b2 (hz : TzOk nv) (l x y : List RQ) (n s K : Nat) (hn : n ≤ 5) (hl : l.length = 2 ^ n) (hx : x.length = l.length) (hs : s < l.length) (hkl : ∀ r ∈ l, r.ok K) (hkx : ∀ r ∈ x, r.ok K) (h1 : 1 ≤ K) (hK : K ≤ 100000) :
    ∃ z e μ, EX ip nv (.code (.loop [] [] dendronlaw19_GameShares.b2) [(0, .d (.sl 3 (el l))), (3, .d (.sl 3 (el x))), (5, .d (.sl 3 (el y))), (7, .d (.int .i64 (n : Int))), (8, .d (.int .i64 (s : Int))), (9, .ptr 9 0), (10, .ptr 10 0), (11, .d (.int .i64 0))] [(9, ⟨0, true, (can 0).c⟩), (10, ⟨0, true, (can 0).c⟩)]) = some (.st z e μ) ∧ z ≠ .normal ∧
    z = .exit 2 ∧ e = [(0, .d (.sl 3 (el l))), (3, .d (.sl 3 (el x))), (5, .d (.sl 3 (el y))), (7, .d (.int .i64 (n : Int))), (8, .d (.int .i64 (s : Int))), (9, .ptr 9 0), (10, .ptr 10 0), (11, .d (.int .i64 (l.length : Int))), (76, .d (.bool false))] ∧ μ = [(9, ⟨0, true, (can (smW n (gv x) s l.length)).c⟩), (10, ⟨0, true, (can (smW n (gv l) s l.length)).c⟩)] := by
  have hp : 2 ^ n ≤ 2 ^ 5 := Nat.pow_le_pow_right (by decide) hn
  have hl32 : l.length ≤ 32 := by omega
  refine loop_n l.length (fun k e μ => ∃ q1 q2 : RQ, q1 = can (smW n (gv x) s k) ∧ q2 = can (smW n (gv l) s k) ∧ e = [(0, .d (.sl 3 (el l))), (3, .d (.sl 3 (el x))), (5, .d (.sl 3 (el y))), (7, .d (.int .i64 (n : Int))), (8, .d (.int .i64 (s : Int))), (9, .ptr 9 0), (10, .ptr 10 0), (11, .d (.int .i64 (k : Int)))] ∧ μ = [(9, ⟨0, true, q1.c⟩), (10, ⟨0, true, q2.c⟩)]) ?_ ?_ ⟨_, _, rfl, rfl, rfl, rfl⟩
  · rintro k e μ hk ⟨q1, q2, hq1, hq2, rfl, rfl⟩
    have w := within_ev (nv := nv) k s n (by omega) (by omega) (by omega)
    have hkx' : k < x.length := by omega
    cases c : win k s n
    · rw [c] at w
      have e1 : ∀ f, smW n f s (k + 1) = smW n f s k := fun f => by
        unfold smW
        rw [sm, c]
        simp [Rat.add_zero]
      refine .inl ⟨_, _, ?_, q1, q2, by rw [e1, hq1], by rw [e1, hq2], rfl, rfl⟩
      clear hq1 hq2 hl
      simp (disch := omega) [dendronlaw19_GameShares.b2, hk, w]
    · rw [c] at w
      have e1 : ∀ f, smW n f s (k + 1) = smW n f s k + f k := fun f => by
        unfold smW
        rw [sm, c]
        rfl
      have hle : (K + 1) * k ≤ (K + 1) * 32 := Nat.mul_le_mul_left _ (by omega)
      have b1 := smW_b (n := n) (s := s) (f := gv x) (m := l.length) (fun t ht => gv_b hkx h1 (by omega)) h1 k (by omega)
      have b2 := smW_b (n := n) (s := s) (f := gv l) (m := l.length) (fun t ht => gv_b hkl h1 (by omega)) h1 k (by omega)
      have a1 := radd_ev hz (can (smW n (gv x) s k)) (ix x k) (can_ok b1) (ixq_ok hkx hkx') (by omega) h1 (by omega)
      have a2 := radd_ev hz (can (smW n (gv l) s k)) (ix l k) (can_ok b2) (ixq_ok hkl hk) (by omega) h1 (by omega)
      rw [can_v] at a1 a2
      have a1' : EX ip nv (.call F.ratio_Add [.d (.ag q1.c), .d (.ag (ix x k).c)] []) = some (.ret (.d (.ag (can (smW n (gv x) s (k + 1))).c)) []) := by rw [e1, hq1]; exact a1
      have a2' : EX ip nv (.call F.ratio_Add [.d (.ag q2.c), .d (.ag (ix l k).c)] []) = some (.ret (.d (.ag (can (smW n (gv l) s (k + 1))).c)) []) := by rw [e1, hq2]; exact a2
      refine .inl ⟨_, _, ?_, can (smW n (gv x) s (k + 1)), can (smW n (gv l) s (k + 1)), rfl, rfl, rfl, rfl⟩
      clear hq1 hq2 hl a1 a2 b1 b2 e1
      generalize can (smW n (gv x) s (k + 1)) = p1 at *
      generalize can (smW n (gv l) s (k + 1)) = p2 at *
      simp (disch := omega) [dendronlaw19_GameShares.b2, hk, hkx', w, a1', a2']
  · rintro e μ ⟨q1, q2, hq1, hq2, rfl, rfl⟩
    subst hq1 hq2
    exact ⟨.exit 2, _, _, by simp [dendronlaw19_GameShares.b2] <;> first | rfl | exact ⟨rfl, rfl⟩, by simp, rfl, rfl, rfl⟩
theorem fwL_v {c : Rat} {l : List RQ} {i s : Nat} (h : s < l.length) : gv (fwL c l i) s = fwd c i (gv l) s := by
  unfold gv fwL
  rw [tb_ix h, can_v]
  rfl
theorem ls_b0 (hz : TzOk nv) (l : List RQ) (n : Nat) (hn : n ≤ 5) (hl : l.length = 2 ^ n) (hk : ∀ r ∈ l, r.ok 2) :
    ∃ z e μ, EX ip nv (.code (.loop [] [] dendronlaw19_GameShares.b0) [(0, .d (.sl 3 (el l))), (3, .d (.sl 3 (el (fwL (-1) l n)))), (5, .d (.sl 3 (el (fwL 1 l n)))), (7, .d (.int .i64 (n : Int))), (8, .d (.int .i64 0))] []) = some (.st z e μ) ∧ z ≠ .normal ∧
    z = .exit 0 ∧ e = [(0, .d (.sl 3 (el l))), (3, .d (.sl 3 (el (fwL (-1) l n)))), (5, .d (.sl 3 (el (fwL 1 l n)))), (7, .d (.int .i64 (n : Int))), (8, .d (.int .i64 (l.length : Int))), (68, .d (.bool false))] ∧ μ = [] := by
  have hp : 2 ^ n ≤ 2 ^ 5 := Nat.pow_le_pow_right (by decide) hn
  obtain ⟨p1, p2, -⟩ := pB_le 2 (by omega) n hn
  have fb : ∀ c : Rat, c = 1 ∨ c = -1 → ∀ s, s < l.length → Bq (pB 2 n) (fwd c n (gv l) s) := fun c hc => fwd_b hc (fun s hs => gv_b hk (by omega) hs) n
  have fb1 := fb 1 (.inl rfl)
  have fb2 := fb (-1) (.inr rfl)
  have hk95 : ∀ r ∈ l, r.ok 95 := fun r hr => (hk r hr).mono (by omega)
  have hkx : ∀ r ∈ fwL (-1) l n, r.ok 95 := by
    intro r hr
    obtain ⟨s, hs, rfl⟩ := tb_mem hr
    exact (can_ok (fb2 s hs)).mono (by omega)
  have hxl : (fwL (-1) l n).length = l.length := by simp [fwL]
  have hyl : (fwL 1 l n).length = l.length := by simp [fwL]
  have hxi : ∀ s, s < l.length → ix (fwL (-1) l n) s = can (fwd (-1) n (gv l) s) := fun s hs => tb_ix hs
  have hyi : ∀ s, s < l.length → ix (fwL 1 l n) s = can (fwd 1 n (gv l) s) := fun s hs => tb_ix hs
  have sx : ∀ s, s < l.length → smW n (gv (fwL (-1) l n)) s l.length = gv l s := fun s hs => by
    have := shares_sum (n := n) (s := s) hn (by omega) (gv l)
    rw [← this]
    unfold sumW smW
    rw [hl]
    refine sm_congr fun t ht => ?_
    rw [fwL_v (by omega)]
  have sy : ∀ s, s < l.length → smW n (gv l) s l.length = fwd 1 n (gv l) s := fun s hs => by
    rw [← sumW_fwd (n := n) (s := s) hn (by omega) (gv l)]
    unfold sumW smW
    rw [hl]
  have hl32 : l.length ≤ 32 := by omega
  generalize fwL (-1) l n = x at *
  generalize fwL 1 l n = y at *
  refine loop_n l.length (fun s e μ => e = [(0, .d (.sl 3 (el l))), (3, .d (.sl 3 (el x))), (5, .d (.sl 3 (el y))), (7, .d (.int .i64 (n : Int))), (8, .d (.int .i64 (s : Int)))] ∧ μ = []) ?_ ?_ ⟨rfl, rfl⟩
  · rintro s e μ hs ⟨rfl, rfl⟩
    have z := zero_ev (nv := nv)
    obtain ⟨_, _, _, hr, -, rfl, rfl, rfl⟩ := ls_b2 hz l x y n s 95 hn hl hxl hs hk95 hkx (by omega) (by omega)
    rw [sx s hs, sy s hs] at hr
    have bl := gv_b hk95 (by omega : 1 ≤ 95) hs
    have s1 := rsame_ev hz (can (gv l s)) (ix l s) (can_ok bl) (ixq_ok hk95 hs) (by omega) (by omega) (by omega)
    rw [can_v, show decide (gv l s = (ix l s).v) = true from decide_eq_true rfl] at s1
    have bb := (fb1 s hs).mono (by omega : pB 2 n ≤ 95)
    have s2 := rsame_ev hz (can (fwd 1 n (gv l) s)) (can (fwd 1 n (gv l) s)) (can_ok bb) (can_ok bb) (by omega) (by omega) (by omega)
    simp only [decide_true] at s2
    have r1 := rright_c (nv := nv) hz _ ((fb2 s hs).mono (by omega : pB 2 n ≤ 95)) (by omega)
    have r2 := rright_c (nv := nv) hz _ bb (by omega)
    have ex := hxi s hs
    have ey := hyi s hs
    have hsx : s < x.length := by omega
    have hsy : s < y.length := by omega
    refine .inl ⟨_, _, ?_, rfl, rfl⟩
    clear sx sy hxi hyi fb fb1 fb2 hk hk95 hkx bl bb hl hp
    generalize can (gv l s) = q1 at *
    generalize can (fwd 1 n (gv l) s) = q2 at *
    generalize can (fwd (-1) n (gv l) s) = q3 at *
    generalize can 0 = q0 at *
    simp (disch := omega) [dendronlaw19_GameShares.b0, hs, hsx, hsy, hxl, hyl, z, hr, s1, s2, r1, r2, ex, ey]
  · rintro e μ ⟨rfl, rfl⟩
    exact ⟨.exit 0, _, [], by simp [dendronlaw19_GameShares.b0] <;> rfl, by simp, rfl, rfl, rfl⟩
end
theorem gameShares_ev (L : List RQ) (hL : L.length ≤ maxLen) (hk : ∀ r ∈ L, r.ok maxLen) : EX ip nv1 (.call F.dendronlaw19_GameShares [.d (.sl 3 (el L))] []) = some (.ret (.d (.bool true)) []) := by
  rw [S_call dendronlaw19_GameShares.ip rfl]
  have f1 := few19_ev (nv := nv1) L hL
  have hk2 := fewR_ok hk
  have hl : (fewR L).length ≤ 33 := by rw [fewR_len]; omega
  have aw := awake19_ev
  generalize fewR L = l at *
  have sz := size19_ev (nv := nv1) l hl
  cases hn : gmN l.length with
  | none =>
    rw [hn] at sz
    simp only at sz
    have b := gsh_bad (nv := nv1) l hl hn
    have b2 := gfs_bad (nv := nv1) l hl hn
    simp (disch := omega) [dendronlaw19_GameShares, f1, b, b2, sz, aw]
  | some n =>
    rw [hn] at sz
    simp only at sz
    have hn6 := gmN_lt ⟨l.length, by omega⟩ n hn
    have hlen := (gmN_some ⟨l.length, by omega⟩ ⟨n, hn6⟩ hn).1
    simp only at hlen
    have n0 : ¬ (n : Int) < 0 := by omega
    have x := gsh_ev tzOk1 l n 2 hl hn hk2 (by omega) (by omega)
    have y := gfs_ev tzOk1 l n 2 hl hn hk2 (by omega) (by omega)
    obtain ⟨_, _, _, lp, -, rfl, rfl, rfl⟩ := ls_b0 (nv := nv1) tzOk1 l n (by omega) hlen hk2
    have hxl : (fwL (-1) l n).length = l.length := by simp [fwL]
    have hyl : (fwL 1 l n).length = l.length := by simp [fwL]
    generalize fwL (-1) l n = x1 at *
    generalize fwL 1 l n = y1 at *
    simp (disch := omega) [dendronlaw19_GameShares, f1, x, y, lp, hxl, hyl, sz, n0, aw]
end Go.Proofs.YtnmbpainnkdonaaGreatDoor
