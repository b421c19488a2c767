/- GameShapley: the law evaluated. -/
import Derived.Test.YtnmbpainnkdonaaGreatDoorGk
import Derived.Test.YtnmbpainnkdonaaGreatDoorGm
import Derived.Test.YtnmbpainnkdonaaGreatDoorVc
set_option linter.unusedSimpArgs false
set_option linter.unusedVariables false
namespace Go.Proofs.YtnmbpainnkdonaaGreatDoor
open Go Go.Proofs.R
set_option maxRecDepth 10000
theorem shL_vl {l : List RQ} {n p : Nat} (hp : p < n) : vl (shL l n) p = shV (gv l) n p := by
  unfold vl shL
  rw [tb_ix hp, can_v]
theorem shL_all {nv : R.Nv} (hz : TzOk nv) (l : List RQ) (n K : Nat) (hn : n ≤ 5) (hl : l.length = 2 ^ n) (hk : ∀ r ∈ l, r.ok K) (h1 : 1 ≤ K) (hK : K ≤ 10000) : EX ip nv (.call F.dendronref10_All [.d (.sl 3 (el (shL l n))), .d (.sl 3 (el (shL l n)))] []) = some (.ret (.d (.bool true)) []) := by
  have hle : (2 * K + 22) * 32 ≤ (2 * 10000 + 22) * 32 := Nat.mul_le_mul_right _ (by omega)
  have vb : ∀ p, p < n → Bq (1 + (2 * K + 22) * 32) (shV (gv l) n p) := fun p hp => shV_b hn (fun s hs => gv_b hk h1 (by omega)) hp
  exact all10_ev hz n (1 + (2 * K + 22) * 32) (fun p => shV (gv l) n p) (shL l n) (by simp [shL]) (by omega) (fun p hp => by
    have : ix (shL l n) p = can (shV (gv l) n p) := tb_ix hp
    rw [this]
    exact ⟨can_v _, can_ok (vb p hp)⟩) vb (by omega) (by omega)
theorem gameShapley_ev (L : List RQ) (hL : L.length ≤ maxLen) (hk : ∀ r ∈ L, r.ok maxLen) : EX ip nv1 (.call F.dendronlaw19_GameShapley [.d (.sl 3 (el L))] []) = some (.ret (.d (.bool true)) []) := by
  rw [S_call dendronlaw19_GameShapley.ip rfl]
  have f1 := few19_ev (nv := nv1) L hL
  have hk2 := fewR_ok hk
  have hl : (fewR L).length ≤ 33 := by rw [fewR_len]; omega
  have aw := awake19_ev
  generalize fewR L = l at *
  have sz := size19_ev (nv := nv1) l hl
  cases hn : gmN l.length with
  | none =>
    rw [hn] at sz
    simp only at sz
    have b := shap_bad l hl hn
    simp (disch := omega) [dendronlaw19_GameShapley, f1, b, sz, aw]
  | some n =>
    rw [hn] at sz
    simp only at sz
    have hn6 := gmN_lt ⟨l.length, by omega⟩ n hn
    have hlen := (gmN_some ⟨l.length, by omega⟩ ⟨n, hn6⟩ hn).1
    simp only at hlen
    have n0 : ¬ (n : Int) < 0 := by omega
    have x := shap_ev l n 2 hl hn hk2 (by omega) (by omega)
    have y := s15_ev l n 2 (by omega) hlen hk2 (by omega) (by omega)
    have al := shL_all tzOk1 l n 2 (by omega) hlen hk2 (by omega) (by omega)
    have hp0 := Nat.two_pow_pos n
    have h0 : 0 < l.length := by omega
    have hlast : 2 ^ n - 1 < l.length := by omega
    have hsl : (shL l n).length = n := by simp [shL]
    have su := rsum_ev tzOk1 (shL l n) (1 + (2 * 2 + 22) * 32) (shL_ok (by omega) hlen hk2 (by omega)) (by omega) (by omega) (by omega)
    have es : sm n (vl (shL l n)) = gv l (2 ^ n - 1) - gv l 0 := by
      rw [sm_congr (g := shV (gv l) n) (fun p hp => shL_vl hp), shap_all (by omega)]
    rw [hsl, es] at su
    have sb : EX ip nv1 (.call F.ratio_Sub [.d (.ag (ix l (2 ^ n - 1)).c), .d (.ag (ix l 0).c)] []) = some (.ret (.d (.ag (can (gv l (2 ^ n - 1) - gv l 0)).c)) []) := rsub_ev tzOk1 (ix l (2 ^ n - 1)) (ix l 0) (ixq_ok hk2 hlast) (ixq_ok hk2 h0) (by omega) (by omega) (by omega)
    have vb := (gv_b hk2 (by omega) hlast).sub (gv_b hk2 (by omega) h0)
    have sm := rsame_ev tzOk1 (can (gv l (2 ^ n - 1) - gv l 0)) (can (gv l (2 ^ n - 1) - gv l 0)) (can_ok vb) (can_ok vb) (by omega) (by omega) (by omega)
    simp only [decide_true] at sm
    have e1 : (l.length : Int) - 1 = ((2 ^ n - 1 : Nat) : Int) := by omega
    clear es vb hn6 hp0
    generalize can (gv l (2 ^ n - 1) - gv l 0) = q at *
    generalize shL l n = xx at *
    clear hlen
    generalize 2 ^ n - 1 = t at *
    simp (disch := omega) [dendronlaw19_GameShapley, f1, sz, aw, n0, x, y, al, su, sb, sm, e1, h0, hlast]
end Go.Proofs.YtnmbpainnkdonaaGreatDoor
