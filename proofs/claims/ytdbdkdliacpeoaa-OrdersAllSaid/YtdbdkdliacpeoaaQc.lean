/- OrdersNexts: what the law computes. -/
import Derived.Test.YtdbdkdliacpeoaaQb
set_option linter.unusedSimpArgs false
set_option linter.unusedVariables false
namespace Go.Proofs.Ytdbdkdliacpeoaa
open Go Go.Proofs.R
set_option maxRecDepth 10000
section
variable {nv : R.Nv}
theorem awake21_ev : EX ip nv (.call F.dendronlaw21_awake [] []) = some (.ret (.d (.bool true)) []) := (EX_some ip nv).2 ⟨1000, by kernel_rfl⟩
theorem nexts_ev (o other : List Int) (ho : o.length ≤ maxLen) (hb : other.length ≤ maxLen) : EX ip nv (.call F.dendronlaw21_OrdersNexts [.d (.sl 1 (el o)), .d (.sl 1 (el other))] []) = some (.ret (.d (.bool true)) []) := by
  rw [S_call dendronlaw21_OrdersNexts.ip rfl]
  have f1 := few21_ev (nv := nv) o ho
  have f2 := few21_ev (nv := nv) other hb
  have hal : (o.take 12).length ≤ 12 := by simp; omega
  have hbl : (other.take 12).length ≤ 12 := by simp; omega
  generalize o.take 12 = a at *
  generalize other.take 12 = b at *
  have nx := next_ev (nv := nv) a (by omega)
  have sm := same21_ev (nv := nv) a a (by omega) (by omega)
  have al := alike21_ev (nv := nv) a b (by omega) (by omega)
  have aw := awake21_ev (nv := nv)
  have ls : a.length ≤ b.length → EX ip nv (.call F.dendronlaw21_less [.d (.sl 1 (el a)), .d (.sl 1 (el b))] []) = some (.ret (.d (.bool (lessL a b))) []) := fun h => less21_ev (nv := nv) a b (by omega) h
  simp only [decide_true] at sm
  unfold alikeB at al
  rcases nextL_spec a with ⟨h1, hd⟩ | ⟨n, p, x, s1, z, s2, h1, hn⟩
  · have e1 : nextV a = .tp [.d (.sl 1 []), .d (.bool false)] := by simp [nextV, h1]
    rw [e1] at nx
    by_cases hp : a.Perm b
    · have l0 := ls (Nat.le_of_eq hp.length_eq)
      rw [max_desc hd hp] at l0
      simp (disch := omega) [dendronlaw21_OrdersNexts, f1, f2, nx, sm, al, aw, hp, l0]
    · simp (disch := omega) [dendronlaw21_OrdersNexts, f1, f2, nx, sm, al, aw, hp]
  · have e1 : nextV a = .tp [.d (.sl 1 (el n)), .d (.bool true)] := by simp [nextV, h1]
    rw [e1] at nx
    have hpn := hn.perm
    have hnl : n.length = a.length := hpn.length_eq.symm
    have al2 := alike21_ev (nv := nv) a n (by omega) (by omega)
    have ls2 := less21_ev (nv := nv) a n (by omega) (by omega)
    rw [hn.less] at ls2
    unfold alikeB at al2
    by_cases hp : a.Perm b
    · have l0 := ls (Nat.le_of_eq hp.length_eq)
      have hl := hp.length_eq
      have l3 := less21_ev (nv := nv) b n (by omega) (by omega)
      by_cases hc : lessL a b = true
      · rw [hc] at l0
        rw [hn.least hp hc] at l3
        simp (disch := omega) [dendronlaw21_OrdersNexts, f1, f2, nx, sm, al, aw, hp, l0, al2, hpn, ls2, l3]
      · rw [Bool.not_eq_true] at hc
        rw [hc] at l0
        simp (disch := omega) [dendronlaw21_OrdersNexts, f1, f2, nx, sm, al, aw, hp, l0, al2, hpn, ls2]
    · simp (disch := omega) [dendronlaw21_OrdersNexts, f1, f2, nx, sm, al, aw, hp, al2, hpn, ls2]
end
end Go.Proofs.Ytdbdkdliacpeoaa
