/- OwenAlones: the law evaluated. -/
import Derived.Test.YtnmbpainnkdonaaGreatDoorOp
import Derived.Test.YtnmbpainnkdonaaGreatDoorSe
set_option linter.unusedSimpArgs false
set_option linter.unusedVariables false
namespace Go.Proofs.YtnmbpainnkdonaaGreatDoor
open Go Go.Proofs.R
set_option maxRecDepth 10000
theorem right_twos : ∀ n : Fin 6, rightG (twos n.val) n.val = true := by decide +kernel
theorem right_all : ∀ n : Fin 6, 1 ≤ n.val → rightG [((2 ^ n.val - 1 : Nat) : Int)] n.val = true := by decide +kernel
theorem owenAlones_ev (L : List RQ) (hL : L.length ≤ maxLen) (hk : ∀ r ∈ L, r.ok maxLen) : EX ip nv1 (.call F.dendronlaw22_OwenAlones [.d (.sl 3 (el L))] []) = some (.ret (.d (.bool true)) []) := by
  rw [S_call dendronlaw22_OwenAlones.ip rfl]
  have f1 := few19_ev (nv := nv1) L hL
  have hk2 := fewR_ok hk
  have hl : (fewR L).length ≤ 33 := by rw [fewR_len]; omega
  have aw := awake22_ev (nv := nv1)
  generalize fewR L = l at *
  have sz := size19_ev (nv := nv1) l hl
  cases hn : gmN l.length with
  | none =>
    rw [hn] at sz
    simp only at sz
    simp (disch := omega) [dendronlaw22_OwenAlones, f1, sz, aw]
  | some n =>
    rw [hn] at sz
    simp only at sz
    have hn6 := gmN_lt ⟨l.length, by omega⟩ n hn
    have hlen := (gmN_some ⟨l.length, by omega⟩ ⟨n, hn6⟩ hn).1
    simp only at hlen
    by_cases h0 : n < 1
    · have h0' : (n : Int) < 1 := by omega
      simp (disch := omega) [dendronlaw22_OwenAlones, f1, sz, aw, h0']
    · have h0' : ¬ (n : Int) < 1 := by omega
      have r1 := right_twos ⟨n, by omega⟩
      have r2 := right_all ⟨n, by omega⟩ (by simp only; omega)
      simp only at r1 r2
      have x := owen_ev l (twos n) n 2 hl (by simp; omega) hn r1 hk2 (by omega) (by omega)
      have y := owen_ev l [((2 ^ n - 1 : Nat) : Int)] n 2 hl (by simp) hn r2 hk2 (by omega) (by omega)
      rw [owL_sh fun i hi => ow_sh (by omega) (by simp; omega) (rightG_iff r1).1 hi (alone_tab ⟨n, by omega⟩ ⟨i, by omega⟩ hi)] at x
      rw [owL_sh fun i hi => ow_sh (by omega) (by simp) (rightG_iff r2).1 hi (onegroup_tab ⟨n, by omega⟩ ⟨i, by omega⟩ hi)] at y
      have z := shap_ev l n 2 hl hn hk2 (by omega) (by omega)
      have al := shAll_ev tzOk1 l n (by omega) hlen hk2
      have ao := alone_ev (nv := nv1) n (by omega)
      have tw := two_ev (nv := nv1) n (by omega)
      have hp := pow_lt (n := n) (by omega)
      have h2 := Nat.two_pow_pos n
      have e1 : el [((2 ^ n - 1 : Nat) : Int)] = [.int .i64 (((2 ^ n : Nat) : Int) - 1)] := by
        rw [show ((2 ^ n - 1 : Nat) : Int) = ((2 ^ n : Nat) : Int) - 1 by omega]; rfl
      rw [e1] at y
      clear r1 r2 e1
      generalize shL l n = q at *
      generalize twos n = tw' at *
      generalize 2 ^ n = M at *
      simp (disch := omega) [dendronlaw22_OwenAlones, f1, sz, aw, h0', x, y, z, al, ao, tw]
end Go.Proofs.YtnmbpainnkdonaaGreatDoor
