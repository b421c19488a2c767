/- OrdersValues: the law evaluated. -/
import Derived.Test.YtnmbpainnkdonaaGreatDoorVv
import Derived.Test.YtnmbpainnkdonaaGreatDoorNx
set_option linter.unusedSimpArgs false
set_option linter.unusedVariables false
namespace Go.Proofs.YtnmbpainnkdonaaGreatDoor
open Go Go.Proofs.R
set_option maxRecDepth 10000
theorem allL_in64 {n : Nat} (hn : n ≤ 5) : ∀ o ∈ allL 5041 (iot n), o.length ≤ 1000 ∧ ∀ x ∈ o, In64 x := by
  intro o ho
  obtain ⟨-, -, -, hall⟩ := all_right ⟨n, by omega⟩
  simp only at hall
  have hp := rightB_perm.1 (List.all_eq_true.1 hall o ho)
  have hl := hp.length_eq
  simp at hl
  refine ⟨by omega, fun x hx => ?_⟩
  obtain ⟨a, b⟩ := nums_mem.1 (hp.mem_iff.1 hx)
  exact ⟨by omega, by omega⟩
theorem ovalues_bad {nv : R.Nv} (l : List RQ) (hl : l.length ≤ 33) (hn : gmN l.length = none) : EX ip nv (.call F.orders_Values [.d (.sl 3 (el l))] []) = some (.ret (.tp [.d (.sl 3 []), .d (.int .i64 1)]) []) := by
  rw [S_call orders_Values.ip rfl]
  have p := players_ev (nv := nv) l hl
  rw [hn] at p
  simp only at p
  simp (disch := omega) [orders_Values, p]
theorem ovalues_ev {nv : R.Nv} (hz : TzOk (nvR nv)) (l : List RQ) (n K : Nat) (hl : l.length ≤ 33) (hn : gmN l.length = some n) (hk : ∀ r ∈ l, r.ok K) (h1 : 1 ≤ K) (hK : K ≤ 10000) : EX ip (nvR nv) (.call F.orders_Values [.d (.sl 3 (el l))] []) = some (.ret (.tp [.d (.sl 3 (el (shL l n))), .d (.int .i64 0)]) []) := by
  rw [S_call orders_Values.ip rfl]
  have p := players_ev (nv := nvR nv) l hl
  rw [hn] at p
  simp only at p
  have hn6 := gmN_lt ⟨l.length, by omega⟩ n hn
  obtain ⟨hd, hle, h0, hall⟩ := all_right ⟨n, by omega⟩
  simp only at hd hle h0 hall
  have al := all_ev (nv := nvR nv) n (by omega) hd
  have hx := allL_in64 (n := n) (by omega)
  have me := mean_ev hz l (allL 5041 (iot n)) n K hl hn hk h1 hK (by omega) (fun o ho => (hx o ho).1) (fun o ho => (hx o ho).2) (fun j hj => List.all_eq_true.1 hall _ (os_ix hj))
  rw [if_neg (by omega)] at me
  have e : meL l (allL 5041 (iot n)) n = shL l n := tb_congr fun p hp => by rw [mean_shap (by omega) hp]; rfl
  rw [e] at me
  clear e hx h0 hall hle hd
  generalize shL l n = x at *
  generalize allL 5041 (iot n) = os at *
  simp (disch := omega) [orders_Values, p, al, me]
theorem ordersValues_ev (L : List RQ) (hL : L.length ≤ maxLen) (hk : ∀ r ∈ L, r.ok maxLen) : EX ip (nvR nv1) (.call F.dendronlaw21_OrdersValues [.d (.sl 3 (el L))] []) = some (.ret (.d (.bool true)) []) := by
  rw [S_call dendronlaw21_OrdersValues.ip rfl]
  have hz := tzOkR tzOk1
  have f1 := few19_ev (nv := nvR nv1) L hL
  have hk2 := fewR_ok hk
  have hl : (fewR L).length ≤ 33 := by rw [fewR_len]; omega
  have aw := awake21_ev (nv := nvR nv1)
  generalize fewR L = l at *
  have sz := size19_ev (nv := nvR nv1) l hl
  cases hn : gmN l.length with
  | none =>
    rw [hn] at sz
    simp only at sz
    have b := ovalues_bad (nv := nvR nv1) l hl hn
    simp (disch := omega) [dendronlaw21_OrdersValues, f1, b, sz, aw]
  | some n =>
    rw [hn] at sz
    simp only at sz
    have hn6 := gmN_lt ⟨l.length, by omega⟩ n hn
    have hlen := (gmN_some ⟨l.length, by omega⟩ ⟨n, hn6⟩ hn).1
    simp only at hlen
    have n0 : ¬ (n : Int) < 0 := by omega
    have x := ovalues_ev hz l n 2 hl hn hk2 (by omega) (by omega)
    have y := upR (shap_ev l n 2 hl hn hk2 (by omega) (by omega))
    have vb : ∀ p, p < n → Bq (1 + (2 * 2 + 22) * 32) (shV (gv l) n p) := fun p hp => shV_b (by omega) (fun s hs => gv_b hk2 (by omega) (by omega)) hp
    have al : EX ip (nvR nv1) (.call F.dendronref10_All [.d (.sl 3 (el (shL l n))), .d (.sl 3 (el (shL l n)))] []) = some (.ret (.d (.bool true)) []) :=
      all10_ev hz n (1 + (2 * 2 + 22) * 32) (fun p => shV (gv l) n p) (shL l n) (by simp [shL]) (by omega) (fun p hp => by
        have : ix (shL l n) p = can (shV (gv l) n p) := tb_ix hp
        rw [this]
        exact ⟨can_v _, can_ok (vb p hp)⟩) vb (by omega) (by omega)
    clear vb
    generalize shL l n = q at *
    simp (disch := omega) [dendronlaw21_OrdersValues, f1, x, y, al, sz, n0, aw]
end Go.Proofs.YtnmbpainnkdonaaGreatDoor
