/- KernelValues: the law. -/
import Derived.Test.YtgigaimaaijalaaGreatDoorKm
import Derived.Test.YtgigaimaaijalaaGreatDoorSe
set_option linter.unusedSimpArgs false
set_option linter.unusedVariables false
namespace Go.Proofs.YtgigaimaaijalaaGreatDoor
open Go Go.Proofs.R
set_option maxRecDepth 10000
section
variable {nv : R.Nv}
theorem all10_ev (hz : TzOk nv) (n K : Nat) (f : Nat → Rat) (y : List RQ) (hyl : y.length = n) (hn : n ≤ 1000000) (hy : ∀ p, p < n → (ix y p).v = f p ∧ (ix y p).ok K) (hf : ∀ p, p < n → Bq K (f p)) (h1 : 1 ≤ K) (hK : K ≤ 100000000) :
    EX ip nv (.call F.dendronref10_All [.d (.sl 3 (el (tb n fun p => can (f p)))), .d (.sl 3 (el y))] []) = some (.ret (.d (.bool true)) []) := by
  rw [S_call dendronref10_All.ip rfl]
  have hxl : (tb n fun p => can (f p)).length = n := tb_len _ _
  have hxi : ∀ p, p < n → ix (tb n fun p => can (f p)) p = can (f p) := fun p hp => tb_ix hp
  generalize (tb n fun p => can (f p)) = x at *
  obtain ⟨_, _, _, hr, -, rfl, rfl, rfl⟩ : ∃ z e μ, EX ip nv (.code (.loop [] [] dendronref10_All.b0) [(0, .d (.sl 3 (el x))), (1, .d (.sl 3 (el y))), (5, .d (.int .i64 0))] []) = some (.st z e μ) ∧ z ≠ .normal ∧
      z = .exit 0 ∧ e = [(0, .d (.sl 3 (el x))), (1, .d (.sl 3 (el y))), (5, .d (.int .i64 (n : Int))), (14, .d (.bool false))] ∧ μ = [] := by
    refine loop_n n (fun p e μ => e = [(0, .d (.sl 3 (el x))), (1, .d (.sl 3 (el y))), (5, .d (.int .i64 (p : Int)))] ∧ μ = []) ?_ ?_ ⟨rfl, rfl⟩
    · rintro p e μ hp ⟨rfl, rfl⟩
      obtain ⟨v, ok⟩ := hy p hp
      have is := is10_ev (nv := nv) (f p) (ix y p) (hf p hp) ok h1 h1 hK hK
      rw [v] at is
      simp only [decide_true] at is
      have hx := hxi p hp
      refine .inl ⟨_, _, ?_, rfl, rfl⟩
      generalize can (f p) = q at *
      simp (disch := omega) [dendronref10_All.b0, hp, hxl, hyl, hx, is]
    · rintro e μ ⟨rfl, rfl⟩
      exact ⟨.exit 0, _, [], by simp [dendronref10_All.b0, hxl] <;> rfl, by simp, rfl, rfl, rfl⟩
  simp (disch := omega) [dendronref10_All, hxl, hyl, hr]
theorem shL_all (hz : TzOk nv) (l : List RQ) (n K : Nat) (hn : n ≤ 5) (hl : l.length = 2 ^ n) (hk : ∀ r ∈ l, r.ok K) (h1 : 1 ≤ K) (hK : K ≤ 10000) : EX ip nv (.call F.dendronref10_All [.d (.sl 3 (el (shL l n))), .d (.sl 3 (el (shL l n)))] []) = some (.ret (.d (.bool true)) []) := by
  have hle : (2 * K + 22) * 32 ≤ (2 * 10000 + 22) * 32 := Nat.mul_le_mul_right _ (by omega)
  have vb : ∀ p, p < n → Bq (1 + (2 * K + 22) * 32) (shV (gv l) n p) := fun p hp => shV_b hn (fun s hs => gv_b hk h1 (by omega)) hp
  exact all10_ev hz n (1 + (2 * K + 22) * 32) (fun p => shV (gv l) n p) (shL l n) (by simp [shL]) (by omega) (fun p hp => by
    have : ix (shL l n) p = can (shV (gv l) n p) := tb_ix hp
    rw [this]
    exact ⟨can_v _, can_ok (vb p hp)⟩) vb (by omega) (by omega)
theorem values_bad (l : List RQ) (hl33 : l.length ≤ 33) (hg : gmN l.length = none) : EX ip nv (.call F.kernel_Values [.d (.sl 3 (el l))] []) = some (.ret (.tp [.d (.sl 3 []), .d (.int .i64 1)]) []) := by
  rw [S_call kernel_Values.ip rfl]
  have p := players_ev (nv := nv) l hl33
  rw [hg] at p
  simp only at p
  simp (disch := omega) [kernel_Values, p]
theorem values_0 (l : List RQ) (hl33 : l.length ≤ 33) (hg : gmN l.length = some 0) : EX ip nv (.call F.kernel_Values [.d (.sl 3 (el l))] []) = some (.ret (.tp [.d (.sl 3 []), .d (.int .i64 0)]) []) := by
  rw [S_call kernel_Values.ip rfl]
  have p := players_ev (nv := nv) l hl33
  rw [hg] at p
  simp only at p
  simp (disch := omega) [kernel_Values, p]
theorem values_1 (hz : TzOk nv) (l : List RQ) (hl33 : l.length ≤ 33) (hg : gmN l.length = some 1) (hl : ∀ r ∈ l, r.ok 2) : EX ip nv (.call F.kernel_Values [.d (.sl 3 (el l))] []) = some (.ret (.tp [.d (.sl 3 (el [can (kT l)])), .d (.int .i64 0)]) []) := by
  rw [S_call kernel_Values.ip rfl]
  have p := players_ev (nv := nv) l hl33
  rw [hg] at p
  simp only at p
  have hlen := (gmN_some ⟨l.length, by omega⟩ ⟨1, by omega⟩ hg).1
  simp only at hlen
  have h0 : 0 < l.length := by omega
  have hL : l.length - 1 < l.length := by omega
  have eL : (l.length : Int) - 1 = ((l.length - 1 : Nat) : Int) := by omega
  have s1 := rsub_ev (nv := nv) hz (ix l (l.length - 1)) (ix l 0) (ixq_ok hl hL) (ixq_ok hl h0) (by decide) (by decide) (by decide)
  rw [show (ix l (l.length - 1)).v - (ix l 0).v = kT l from rfl] at s1
  generalize can (kT l) = q at *
  have e1 : el [q] = q.c := List.append_nil _
  rw [e1]
  simp (disch := omega) [kernel_Values, p, eL, hL, h0, s1]
end
theorem shL_one {l : List RQ} (hll : l.length = 2) : shL l 1 = [can (kT l)] := by
  have e : shV (gv l) 1 0 = kT l := by
    have := shap_all (v := gv l) (n := 1) (by omega)
    simp only [sm] at this
    unfold kT
    rw [hll]
    unfold gv at this ⊢
    grind
  unfold shL
  rw [tb_succ, e]
  rfl
theorem kvalues_ev (a : List RQ) (hal : a.length ≤ maxLen) (ha : ∀ r ∈ a, r.ok maxLen) : EX ip nv1 (.call F.dendronlaw20_KernelValues [.d (.sl 3 (el a))] []) = some (.ret (.d (.bool true)) []) := by
  rw [S_call dendronlaw20_KernelValues.ip rfl]
  have f1 := few19_ev (nv := nv1) a hal
  have hl := fewR_ok ha
  have hl33 : (fewR a).length ≤ 33 := by rw [fewR_len]; omega
  have aw := kawake (nv := nv1) tzOk1
  generalize fewR a = l at *
  clear ha hal
  have sz := size19_ev (nv := nv1) l hl33
  cases hg : gmN l.length with
  | none =>
    rw [hg] at sz
    simp only at sz
    have va := values_bad (nv := nv1) l hl33 hg
    simp (disch := omega) [dendronlaw20_KernelValues, f1, sz, va, aw]
  | some n =>
    rw [hg] at sz
    simp only at sz
    have hn6 := gmN_lt ⟨l.length, by omega⟩ n hg
    have hlen := (gmN_some ⟨l.length, by omega⟩ ⟨n, hn6⟩ hg).1
    simp only at hlen
    have va : EX ip nv1 (.call F.kernel_Values [.d (.sl 3 (el l))] []) = some (.ret (.tp [.d (.sl 3 (el (shL l n))), .d (.int .i64 0)]) []) := by
      by_cases h0 : n = 0
      · subst h0
        exact values_0 l hl33 hg
      · by_cases h1 : n = 1
        · subst h1
          rw [shL_one (by simpa using hlen)]
          exact values_1 tzOk1 l hl33 hg hl
        · obtain ⟨C, rfl⟩ : ∃ C, n = C + 1 := ⟨n - 1, by omega⟩
          rw [← kV_list (by omega) (by omega) hlen]
          exact values_ev tzOk1 l C (by omega) (by omega) hl33 hg hl
    have sh := shap_ev l n 2 hl33 hg hl (by omega) (by omega)
    have al := shL_all tzOk1 l n 2 (by omega) hlen hl (by omega) (by omega)
    have n0 : ¬ (n : Int) < 0 := by omega
    generalize shL l n = x at *
    simp (disch := omega) [dendronlaw20_KernelValues, f1, sz, va, sh, al, aw, n0]
end Go.Proofs.YtgigaimaaijalaaGreatDoor
