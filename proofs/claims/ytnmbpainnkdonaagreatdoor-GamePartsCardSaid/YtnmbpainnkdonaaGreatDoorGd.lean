/- GameDuals: the dual of a game. -/
import Derived.Test.YtnmbpainnkdonaaGreatDoorGm
import Derived.Test.YtnmbpainnkdonaaGreatDoorGr
import Derived.Test.YtnmbpainnkdonaaGreatDoorOc
import Derived.Test.YtnmbpainnkdonaaGreatDoorVd
set_option linter.unusedSimpArgs false
set_option linter.unusedVariables false
namespace Go.Proofs.YtnmbpainnkdonaaGreatDoor
open Go Go.Proofs.R
set_option maxRecDepth 10000
theorem ibits_xor {a b : Nat} (h : a < 9223372036854775808) (h' : b < 9223372036854775808) : bitsD .xor .i64 (a : Int) (b : Int) = ((a ^^^ b : Nat) : Int) := by
  have e : ∀ x : Nat, x < 9223372036854775808 → (BitVec.ofInt 64 (x : Int)).toNat = x := fun x hx => by
    simp [BitVec.toNat_ofInt]; omega
  show IntKind.i64.wrap (((BitVec.ofInt 64 (a : Int) ^^^ BitVec.ofInt 64 (b : Int)).toNat : Nat) : Int) = _
  rw [BitVec.toNat_xor, e a h, e b h']
  have : a ^^^ b < 2 ^ 63 := Nat.xor_lt_two_pow (by omega) (by omega)
  exact i64_wrap (by omega) (by omega)
/-- The numbers of a dual. -/
def duL (l : List RQ) (m : Nat) : List RQ := tb m fun s => can (gv l (l.length - 1) - gv l (l.length - 1 - s))
theorem duL_v {l : List RQ} {m s : Nat} (h : s < m) : gv (duL l m) s = gv l (l.length - 1) - gv l (l.length - 1 - s) := by
  unfold gv duL
  rw [tb_ix h, can_v]
  rfl
theorem duL_ok {l : List RQ} {m K : Nat} (hk : ∀ r ∈ l, r.ok K) (h1 : 1 ≤ K) (h0 : 0 < l.length) : ∀ r ∈ duL l m, r.ok (2 * K + 1) := by
  intro r hr
  obtain ⟨s, hs, rfl⟩ := tb_mem hr
  exact can_ok (((gv_b hk h1 (s := l.length - 1) (by omega)).sub (gv_b hk h1 (s := l.length - 1 - s) (by omega))).mono (by omega))
theorem xor_all : ∀ n : Fin 6, ∀ s : Fin 32, s.val < 2 ^ n.val → (2 ^ n.val - 1) ^^^ s.val = 2 ^ n.val - 1 - s.val := by decide
theorem gdual_bad {nv : R.Nv} (l : List RQ) (hl : l.length ≤ 33) (hn : gmN l.length = none) : EX ip nv (.call F.game_Dual [.d (.sl 3 (el l))] []) = some (.ret (.tp [.d (.sl 3 []), .d (.int .i64 1)]) []) := by
  rw [S_call game_Dual.ip rfl]
  have p := players_ev (nv := nv) l hl
  rw [hn] at p
  simp only at p
  simp (disch := omega) [game_Dual, p]
theorem gdual_ev {nv : R.Nv} (hz : TzOk nv) (l : List RQ) (n K : Nat) (hl : l.length ≤ 33) (hn : gmN l.length = some n) (hk : ∀ r ∈ l, r.ok K) (h1 : 1 ≤ K) (hK : K ≤ 100000) : EX ip nv (.call F.game_Dual [.d (.sl 3 (el l))] []) = some (.ret (.tp [.d (.sl 3 (el (duL l l.length))), .d (.int .i64 0)]) []) := by
  rw [S_call game_Dual.ip rfl]
  have p := players_ev (nv := nv) l hl
  rw [hn] at p
  simp only at p
  have hn6 := gmN_lt ⟨l.length, by omega⟩ n hn
  have hlen := (gmN_some ⟨l.length, by omega⟩ ⟨n, hn6⟩ hn).1
  simp only at hlen
  have hp32 : 2 ^ n ≤ 2 ^ 5 := Nat.pow_le_pow_right (by decide) (by omega)
  have hp0 := Nat.two_pow_pos n
  obtain ⟨_, _, _, hr, -, rfl, rfl, rfl⟩ : ∃ z e μ, EX ip nv (.code (.loop [] [] game_Dual.b0) [(0, .d (.sl 3 (el l))), (6, .d (.int .i64 ((l.length - 1 : Nat) : Int))), (7, .own 7 3 0 0), (20, .d (.int .i64 (l.length : Int))), (21, .d (.int .i64 0))] [(7, ⟨0, false, []⟩)]) = some (.st z e μ) ∧ z ≠ .normal ∧
      z = .exit 0 ∧ e = [(0, .d (.sl 3 (el l))), (6, .d (.int .i64 ((l.length - 1 : Nat) : Int))), (7, .own 7 3 0 l.length), (20, .d (.int .i64 (l.length : Int))), (21, .d (.int .i64 (l.length : Int))), (22, .d (.bool false))] ∧ μ = [(7, ⟨0, false, el (duL l l.length)⟩)] := by
    refine loop_n l.length (fun s e μ => ∃ x : List RQ, x = duL l s ∧ e = [(0, .d (.sl 3 (el l))), (6, .d (.int .i64 ((l.length - 1 : Nat) : Int))), (7, .own 7 3 0 x.length), (20, .d (.int .i64 (l.length : Int))), (21, .d (.int .i64 (s : Int)))] ∧ μ = [(7, ⟨0, false, el x⟩)]) ?_ ?_ ⟨[], rfl, rfl, rfl⟩
    · rintro s e μ hs ⟨x, hx, rfl, rfl⟩
      have hxl : x.length = s := by rw [hx]; simp [duL]
      have ha : l.length - 1 < l.length := by omega
      have hb : l.length - 1 - s < l.length := by omega
      have xo := ibits_xor (a := l.length - 1) (b := s) (by omega) (by omega)
      have xf := xor_all ⟨n, by omega⟩ ⟨s, by omega⟩ (by simp only; omega)
      simp only at xf
      rw [← hlen] at xf
      rw [xf] at xo
      have sb : EX ip nv (.call F.ratio_Sub [.d (.ag (ix l (l.length - 1)).c), .d (.ag (ix l (l.length - 1 - s)).c)] []) = some (.ret (.d (.ag (can (gv l (l.length - 1) - gv l (l.length - 1 - s))).c)) []) := rsub_ev hz (ix l (l.length - 1)) (ix l (l.length - 1 - s)) (ixq_ok hk ha) (ixq_ok hk hb) h1 h1 (by omega)
      refine .inl ⟨_, _, ?_, x ++ [can (gv l (l.length - 1) - gv l (l.length - 1 - s))], by rw [hx, duL, duL, tb_succ], rfl, rfl⟩
      clear hx xf
      generalize can (gv l (l.length - 1) - gv l (l.length - 1 - s)) = q at *
      generalize l.length - 1 - s = t2 at *
      generalize l.length - 1 = t1 at *
      simp (disch := omega) [game_Dual.b0, hs, ha, hb, xo, sb]
    · rintro e μ ⟨x, hx, rfl, rfl⟩
      have hxl : x.length = l.length := by rw [hx]; simp [duL]
      rw [hxl]
      exact ⟨.exit 0, _, _, by simp [game_Dual.b0] <;> first | rfl | exact ⟨rfl, rfl⟩, by simp, rfl, rfl, by rw [hx]⟩
  have hsl : (duL l l.length).length = l.length := by simp [duL]
  have e1 : (l.length : Int) - 1 = ((l.length - 1 : Nat) : Int) := by omega
  generalize duL l l.length = q at *
  generalize l.length - 1 = t1 at *
  simp (disch := omega) [game_Dual, p, e1, hr, hsl]
theorem gd_b0 (l : List RQ) (K : Nat) (hm : l.length ≤ 33) (h0 : 0 < l.length) (hk : ∀ r ∈ l, r.ok K) (h1 : 1 ≤ K) (hK : K ≤ 100000) :
    ∃ z e μ, EX ip nv1 (.code (.loop [] [] dendronlaw19_GameDuals.b0) [(0, .d (.sl 3 (el l))), (3, .d (.sl 3 (el (duL l l.length)))), (5, .d (.int .i64 0))] []) = some (.st z e μ) ∧ z ≠ .normal ∧
    z = .exit 0 ∧ e = [(0, .d (.sl 3 (el l))), (3, .d (.sl 3 (el (duL l l.length)))), (5, .d (.int .i64 (l.length : Int))), (42, .d (.bool false))] ∧ μ = [] := by
  have hsl : (duL l l.length).length = l.length := by simp [duL]
  have hsx : ∀ s, s < l.length → ix (duL l l.length) s = can (gv l (l.length - 1) - gv l (l.length - 1 - s)) := fun s hs => tb_ix hs
  generalize duL l l.length = su at *
  refine loop_n l.length (fun s e μ => e = [(0, .d (.sl 3 (el l))), (3, .d (.sl 3 (el su))), (5, .d (.int .i64 (s : Int)))] ∧ μ = []) ?_ ?_ ⟨rfl, rfl⟩
  · rintro s e μ hs ⟨rfl, rfl⟩
    have ha : l.length - 1 < l.length := by omega
    have hb : l.length - 1 - s < l.length := by omega
    have sb : EX ip nv1 (.call F.ratio_Sub [.d (.ag (ix l (l.length - 1)).c), .d (.ag (ix l (l.length - 1 - s)).c)] []) = some (.ret (.d (.ag (can (gv l (l.length - 1) - gv l (l.length - 1 - s))).c)) []) := rsub_ev tzOk1 (ix l (l.length - 1)) (ix l (l.length - 1 - s)) (ixq_ok hk ha) (ixq_ok hk hb) h1 h1 (by omega)
    have vb := (gv_b hk h1 ha).sub (gv_b hk h1 hb)
    have rr := rright_c (nv := nv1) tzOk1 _ vb (by omega)
    have sm := rsame_ev tzOk1 (can (gv l (l.length - 1) - gv l (l.length - 1 - s))) (can (gv l (l.length - 1) - gv l (l.length - 1 - s))) (can_ok vb) (can_ok vb) (by omega) (by omega) (by omega)
    simp only [decide_true] at sm
    have hx := hsx s hs
    have e1 : (l.length : Int) - 1 = ((l.length - 1 : Nat) : Int) := by omega
    have e2 : ((l.length - 1 : Nat) : Int) - (s : Int) = ((l.length - 1 - s : Nat) : Int) := by omega
    refine .inl ⟨_, _, ?_, rfl, rfl⟩
    clear hsx vb
    generalize can (gv l (l.length - 1) - gv l (l.length - 1 - s)) = q at *
    generalize l.length - 1 - s = t2 at *
    generalize l.length - 1 = t1 at *
    simp (disch := omega) [dendronlaw19_GameDuals.b0, hs, hsl, hx, rr, e1, e2, ha, hb, sb, sm]
  · rintro e μ ⟨rfl, rfl⟩
    exact ⟨.exit 0, _, [], by simp [dendronlaw19_GameDuals.b0, hsl] <;> rfl, by simp, rfl, rfl, rfl⟩
theorem gameDuals_ev (L : List RQ) (hL : L.length ≤ maxLen) (hk : ∀ r ∈ L, r.ok maxLen) : EX ip nv1 (.call F.dendronlaw19_GameDuals [.d (.sl 3 (el L))] []) = some (.ret (.d (.bool true)) []) := by
  rw [S_call dendronlaw19_GameDuals.ip rfl]
  have f1 := few19_ev (nv := nv1) L hL
  have hk2 := fewR_ok hk
  have hl : (fewR L).length ≤ 33 := by rw [fewR_len]; omega
  have aw := awake19_ev
  generalize fewR L = l at *
  have sz := size19_ev (nv := nv1) l hl
  cases hn : gmN l.length with
  | none =>
    rw [hn] at sz
    simp only at sz
    have b := gdual_bad (nv := nv1) l hl hn
    simp (disch := omega) [dendronlaw19_GameDuals, f1, b, sz, aw]
  | some n =>
    rw [hn] at sz
    simp only at sz
    have hn6 := gmN_lt ⟨l.length, by omega⟩ n hn
    have hlen := (gmN_some ⟨l.length, by omega⟩ ⟨n, hn6⟩ hn).1
    simp only at hlen
    have hp0 := Nat.two_pow_pos n
    have n0 : ¬ (n : Int) < 0 := by omega
    have d := gdual_ev tzOk1 l n 2 hl hn hk2 (by omega) (by omega)
    have x := shap_ev l n 2 hl hn hk2 (by omega) (by omega)
    have y := shap_ev (duL l l.length) n 5 (by simp [duL]; omega) (by simp [duL]; exact hn) (duL_ok hk2 (by omega) (by omega)) (by omega) (by omega)
    have e : shL (duL l l.length) n = shL l n := tb_congr fun p hp => by
      have h1 := (shV_lin (n := n) (i := p) (by omega) hp).look (u := gv (duL l l.length)) (v := fun s => gv l (2 ^ n - 1) - gv l (2 ^ n - 1 - s)) (fun j hj => by rw [duL_v (by omega), hlen])
      rw [h1, shap_dual (by omega) hp]
    rw [e] at y
    obtain ⟨_, _, _, lp, -, rfl, rfl, rfl⟩ := gd_b0 l 2 (by omega) (by omega) hk2 (by omega) (by omega)
    have al := shL_all tzOk1 l n 2 (by omega) hlen hk2 (by omega) (by omega)
    have hdl : (duL l l.length).length = l.length := by simp [duL]
    clear e
    generalize shL l n = xx at *
    generalize duL l l.length = dd at *
    simp (disch := omega) [dendronlaw19_GameDuals, f1, sz, aw, n0, d, x, y, lp, al, hdl]
end Go.Proofs.YtnmbpainnkdonaaGreatDoor
