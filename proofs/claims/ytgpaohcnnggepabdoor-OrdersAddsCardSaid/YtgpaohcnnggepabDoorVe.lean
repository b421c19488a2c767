/- OrdersAdds: what each player adds in any order. -/
import Derived.Test.YtgpaohcnnggepabDoorVc
set_option linter.unusedSimpArgs false
set_option linter.unusedVariables false
namespace Go.Proofs.YtgpaohcnnggepabDoor
open Go Go.Proofs.R
set_option maxRecDepth 10000
theorem adL_v {l : List RQ} {o : List Int} {n p : Nat} (h : p < n) : vl (adL l o n) p = aV (vl l) o n p := by
  unfold vl adL
  rw [tb_ix h, can_v]
  rfl
theorem adL_ok {l : List RQ} {o : List Int} {n K : Nat} (hk : ∀ r ∈ l, r.ok K) (h1 : 1 ≤ K) (hl : l.length = 2 ^ n) (h : o.Perm (nums n)) : ∀ r ∈ adL l o n, r.ok (2 * K + 1) := by
  intro r hr
  obtain ⟨p, hp, rfl⟩ := tb_mem hr
  exact can_ok (aV_b hk h1 hl h n (Nat.le_refl _) p)
theorem ordersAdds_ev {nv : R.Nv} (hz : TzOk (nvR nv)) (L : List RQ) (O : List Int) (hL : L.length ≤ maxLen) (hO : O.length ≤ maxLen) (hk : ∀ r ∈ L, r.ok maxLen) (hx : ∀ x ∈ O, In64 x) : EX ip (nvR nv) (.call F.dendronlaw21_OrdersAdds [.d (.sl 3 (el L)), .d (.sl 1 (el O))] []) = some (.ret (.d (.bool true)) []) := by
  rw [S_call dendronlaw21_OrdersAdds.ip rfl]
  have f1 := few19_ev (nv := nvR nv) L hL
  have f2 := few21_ev (nv := nvR nv) O hO
  have hk2 := fewR_ok hk
  have hl : (fewR L).length ≤ 33 := by rw [fewR_len]; omega
  have ho : (O.take 12).length ≤ 12 := by simp; omega
  have hxo : ∀ x ∈ O.take 12, In64 x := fun x h => hx x (List.mem_of_mem_take h)
  have aw := awake21_ev (nv := nvR nv)
  generalize fewR L = l at *
  generalize O.take 12 = o at *
  have sz := size19_ev (nv := nvR nv) l hl
  cases hn : gmN l.length with
  | none =>
    rw [hn] at sz
    simp only at sz
    have b := adds_bad (nv := nv) l o hl (by omega) hxo (fun n h => by rw [hn] at h; cases h)
    simp (disch := omega) [dendronlaw21_OrdersAdds, f1, f2, b, sz, aw]
  | some n =>
    rw [hn] at sz
    simp only at sz
    have hn6 := gmN_lt ⟨l.length, by omega⟩ n hn
    have hlen := (gmN_some ⟨l.length, by omega⟩ ⟨n, hn6⟩ hn).1
    simp only at hlen
    have n0 : ¬ (n : Int) < 0 := by omega
    have r := right21_ev (nv := nvR nv) o n (by omega)
    cases h : rightB o n
    · rw [h] at r
      have b := adds_bad (nv := nv) l o hl (by omega) hxo (fun m hm => by rw [hn] at hm; cases hm; exact h)
      simp (disch := omega) [dendronlaw21_OrdersAdds, f1, f2, b, sz, aw, n0, r]
    · rw [h] at r
      have hperm := rightB_perm.1 h
      have a := adds_ev hz l o n 2 hl hn hk2 (by omega) (by omega) (by omega) hxo h
      have la := ladds_ev hz l o n 2 (by omega) hlen hk2 (by omega) (by omega) h
      have al : EX ip (nvR nv) (.call F.dendronref10_All [.d (.sl 3 (el (adL l o n))), .d (.sl 3 (el (adL l o n)))] []) = some (.ret (.d (.bool true)) []) :=
        all10_ev hz n 5 (fun p => aV (vl l) o n p) (adL l o n) (by simp [adL]) (by omega) (fun p hp => ⟨adL_v hp, by
          have : ix (adL l o n) p = can (aV (vl l) o n p) := tb_ix hp
          rw [this]
          exact can_ok (aV_b hk2 (by omega) hlen hperm n (Nat.le_refl _) p)⟩) (fun p _ => aV_b hk2 (by omega) hlen hperm n (Nat.le_refl _) p) (by omega) (by omega)
      have hal : (adL l o n).length = n := by simp [adL]
      have su := rsum_ev hz (adL l o n) 5 (adL_ok hk2 (by omega) hlen hperm) (by omega) (by omega) (by omega)
      have es : sm n (vl (adL l o n)) = vl l (2 ^ n - 1) - vl l 0 := by
        rw [sm_congr (g := aV (vl l) o n) (fun p hp => adL_v hp), aV_sum hperm n (Nat.le_refl _), ps_all hperm]
      rw [hal, es] at su
      have hp0 := Nat.two_pow_pos n
      have h0 : 0 < l.length := by omega
      have hlast : 2 ^ n - 1 < l.length := by omega
      have sb : EX ip (nvR nv) (.call F.ratio_Sub [.d (.ag (ix l (2 ^ n - 1)).c), .d (.ag (ix l 0).c)] []) = some (.ret (.d (.ag (can (vl l (2 ^ n - 1) - vl l 0)).c)) []) := rsub_ev hz (ix l (2 ^ n - 1)) (ix l 0) (ixq_ok hk2 hlast) (ixq_ok hk2 h0) (by omega) (by omega) (by omega)
      have vb := (vl_b hk2 (by omega) hlast).sub (vl_b hk2 (by omega) h0)
      have sm := rsame_ev hz (can (vl l (2 ^ n - 1) - vl l 0)) (can (vl l (2 ^ n - 1) - vl l 0)) (can_ok vb) (can_ok vb) (by omega) (by omega) (by omega)
      simp only [decide_true] at sm
      have e1 : (l.length : Int) - 1 = ((2 ^ n - 1 : Nat) : Int) := by omega
      clear es vb hn6 hp0
      generalize can (vl l (2 ^ n - 1) - vl l 0) = q at *
      generalize adL l o n = x at *
      clear hlen
      generalize 2 ^ n - 1 = t at *
      simp (disch := omega) [dendronlaw21_OrdersAdds, f1, f2, sz, aw, n0, r, a, la, al, su, sb, sm, e1, h0, hlast]
end Go.Proofs.YtgpaohcnnggepabDoor
