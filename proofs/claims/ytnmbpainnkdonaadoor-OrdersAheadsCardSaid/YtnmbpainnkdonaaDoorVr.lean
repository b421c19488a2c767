/- OrdersAheads: the law evaluated. -/
import Derived.Test.YtnmbpainnkdonaaDoorVp
set_option linter.unusedSimpArgs false
set_option linter.unusedVariables false
namespace Go.Proofs.YtnmbpainnkdonaaDoor
open Go Go.Proofs.R
set_option maxRecDepth 10000
theorem allL_in64' {n : Nat} (hn : n ≤ 5) : ∀ o ∈ allL 5041 (iot n), o.length ≤ 1000 ∧ ∀ x ∈ o, In64 x := by
  intro o ho
  obtain ⟨-, -, -, hall⟩ := all_right ⟨n, by omega⟩
  simp only at hall
  have hp := rightB_perm.1 (List.all_eq_true.1 hall o ho)
  have hl := hp.length_eq
  simp at hl
  refine ⟨by omega, fun x hx => ?_⟩
  obtain ⟨a, b⟩ := nums_mem.1 (hp.mem_iff.1 hx)
  exact ⟨by omega, by omega⟩
/-- Two numbers, one behind the other. -/
theorem TV_pair {P : Program} {N : Nat} {t e : TypeId} {R : Int → Prop} (h : P.underlying t = some (.array 2 e)) (he : TV P N e R) : TV P N t (fun p : Int × Int => R p.1 ∧ R p.2) := by
  intro q l hl
  cases q with
  | zero => exact hl.elim
  | succ q =>
    simp only [TyC, h] at hl
    obtain ⟨xs, rfl, hx, hf⟩ := hl
    match xs, hx with
    | [a, b], _ =>
      obtain ⟨x, rfl, rx⟩ := he q a (hf a (by simp))
      obtain ⟨y, rfl, ry⟩ := he q b (hf b (by simp))
      exact ⟨(x, y), rfl, rx, ry⟩
section
variable {nv : R.Nv}
theorem ahead_none (l : List RQ) (ps : List (Int × Int)) (hl : l.length ≤ 33) (hn : gmN l.length = none) : EX ip nv (.call F.orders_Ahead [.d (.sl 3 (el l)), .d (.sl 2 (el ps))] []) = some (.ret (.tp [.d (.sl 3 []), .d (.int .i64 1)]) []) := by
  rw [S_call orders_Ahead.ip rfl]
  have p := players_ev (nv := nv) l hl
  rw [hn] at p
  simp only at p
  simp (disch := omega) [orders_Ahead, p]
theorem ahead_bad (l : List RQ) (ps : List (Int × Int)) (n : Nat) (hl : l.length ≤ 33) (hn : gmN l.length = some n) (hp : ps.length ≤ 1000) (hb : ∃ j, j < ps.length ∧ outP n (ix ps j) = true) : EX ip nv (.call F.orders_Ahead [.d (.sl 3 (el l)), .d (.sl 2 (el ps))] []) = some (.ret (.tp [.d (.sl 3 []), .d (.int .i64 8)]) []) := by
  rw [S_call orders_Ahead.ip rfl]
  have p := players_ev (nv := nv) l hl
  rw [hn] at p
  simp only at p
  have hn6 := gmN_lt ⟨l.length, by omega⟩ n hn
  obtain ⟨hd, hle, h0, hall⟩ := all_right ⟨n, by omega⟩
  simp only at hd hle h0 hall
  have al := all_ev (nv := nv) n (by omega) hd
  generalize allL 5041 (iot n) = os at *
  obtain ⟨_, _, _, h, -, hc⟩ := ahead_b0 (nv := nv) l ps os n (by omega) hp
  rcases hc with ⟨-, -, -, hr⟩ | ⟨rfl, rfl, rfl, -⟩
  · obtain ⟨j, hj, c⟩ := hb
    rw [hr j hj] at c; cases c
  · simp (disch := omega) [orders_Ahead, p, al, h]
theorem ahead_ok (l : List RQ) (ps : List (Int × Int)) (n : Nat) (x : D) (e : Int) (hl : l.length ≤ 33) (hn : gmN l.length = some n) (hp : ps.length ≤ 1000) (hr : ∀ j, j < ps.length → outP n (ix ps j) = false)
    (me : EX ip nv (.call F.orders_Mean [.d (.sl 3 (el l)), .d (.sl 1 (el (ahL (allL 5041 (iot n)) ps)))] []) = some (.ret (.tp [.d x, .d (.int .i64 e)]) [])) :
    EX ip nv (.call F.orders_Ahead [.d (.sl 3 (el l)), .d (.sl 2 (el ps))] []) = some (.ret (.tp [.d x, .d (.int .i64 e)]) []) := by
  rw [S_call orders_Ahead.ip rfl]
  have p := players_ev (nv := nv) l hl
  rw [hn] at p
  simp only at p
  have hn6 := gmN_lt ⟨l.length, by omega⟩ n hn
  obtain ⟨hd, hle, h0, hall⟩ := all_right ⟨n, by omega⟩
  simp only at hd hle h0 hall
  have al := all_ev (nv := nv) n (by omega) hd
  have hall' := List.all_eq_true.1 hall
  generalize allL 5041 (iot n) = os at *
  obtain ⟨_, _, _, h, -, hc⟩ := ahead_b0 (nv := nv) l ps os n (by omega) hp
  rcases hc with ⟨rfl, rfl, rfl, -⟩ | ⟨-, -, -, j, hj, c⟩
  · obtain ⟨_, _, _, h2, -, rfl, rfl, rfl⟩ := ahead_b2 (nv := nv) l ps os n (by omega) hp (by omega) hr hall'
    generalize ahL os ps = sm at *
    simp (disch := omega) [orders_Ahead, p, al, h, h2, me]
  · rw [hr j hj] at c; cases c
theorem idx_at {p : Int} : ∀ {o : List Int} {i : Nat}, i < o.length → ix o i = p → p ∉ o.take i → o.idxOf p = i
  | [], i, h, _, _ => by simp at h
  | x :: r, 0, _, hx, _ => by
    have : x = p := hx
    subst this
    exact List.idxOf_cons_self
  | x :: r, i + 1, h, hx, hno => by
    have h1 : x ≠ p := by
      rintro rfl
      exact hno (by simp)
    have := idx_at (o := r) (i := i) (p := p) (by simpa using h) (by simpa [ix] using hx) (by
      intro hm
      exact hno (by simp [hm]))
    have h2 : (x == p) = false := beq_false_of_ne h1
    rw [List.idxOf_cons, this, h2]
    rfl
/-- Where a player stands, as the law says it. -/
def plcI (o : List Int) (p : Int) : Int := if p ∈ o then (o.idxOf p : Int) else -1
theorem place_ev (o : List Int) (p : Int) (ho : o.length ≤ 1000) : EX ip nv (.call F.dendronlaw21_place [.d (.sl 1 (el o)), .d (.int .i64 p)] []) = some (.ret (.d (.int .i64 (plcI o p))) []) := by
  rw [S_call dendronlaw21_place.ip rfl]
  obtain ⟨x, e, μ, hr, -, hp⟩ : ∃ x e μ, EX ip nv (.code (.loop [] [] dendronlaw21_place.b0) [(0, .d (.sl 1 (el o))), (1, .d (.int .i64 p)), (5, .d (.int .i64 0))] []) = some (.st x e μ) ∧ x ≠ .normal ∧
      ((∃ v w, x = .exit 0 ∧ e = [(0, .d (.sl 1 (el o))), (1, .d (.int .i64 p)), (5, v), (9, w)] ∧ μ = [] ∧ p ∉ o) ∨ (x = .ret ∧ e = [(4, .d (.int .i64 (o.idxOf p : Int)))] ∧ μ = [] ∧ p ∈ o)) := by
    refine loop_n o.length (fun i e μ => e = [(0, .d (.sl 1 (el o))), (1, .d (.int .i64 p)), (5, .d (.int .i64 (i : Int)))] ∧ μ = [] ∧ p ∉ o.take i) ?_ ?_ ⟨rfl, rfl, by simp⟩
    · rintro i e μ hi ⟨rfl, rfl, hno⟩
      by_cases hc : ix o i = p
      · have hio : o[i] = p := by simpa [ix, List.getD_eq_getElem?_getD, hi] using hc
        have hm : p ∈ o := by rw [← hio]; exact List.getElem_mem hi
        have e1 : o.idxOf p = i := idx_at hi hc hno
        refine .inr ⟨.ret, _, _, ?_, by simp, .inr ⟨rfl, rfl, rfl, hm⟩⟩
        rw [e1]
        simp (disch := omega) [dendronlaw21_place.b0, hi, hc]
      · refine .inl ⟨_, _, ?_, rfl, rfl, ?_⟩
        · simp (disch := omega) [dendronlaw21_place.b0, hi, hc]
        · rw [take_ix hi, List.mem_append, List.mem_singleton, not_or]
          exact ⟨hno, fun h => hc h.symm⟩
    · rintro e μ ⟨rfl, rfl, hno⟩
      rw [List.take_of_length_le (Nat.le_refl _)] at hno
      exact ⟨_, _, _, by simp [dendronlaw21_place.b0] <;> first | rfl | exact ⟨rfl, rfl⟩, by simp, .inl ⟨_, _, rfl, rfl, rfl, hno⟩⟩
  unfold plcI
  rcases hp with ⟨v, w, rfl, rfl, rfl, h⟩ | ⟨rfl, rfl, rfl, h⟩
  · simp (disch := omega) [dendronlaw21_place, hr, h]
  · simp (disch := omega) [dendronlaw21_place, hr, h]
theorem ld_pair0 {μ : Mem} {ps : List (Int × Int)} {i : Nat} (h : i < ps.length) : vLd 1 false μ (some (.cp (el ps) (ofs 2 i))) = some (.d (.int .i64 (ix ps i).1)) := by
  have e : (el ps).drop (i * 2) = [.int .i64 (ix ps i).1, .int .i64 (ix ps i).2] ++ el (ps.drop (i + 1)) := by
    rw [el_drop, drop_ix h, el_cons]; rfl
  rw [vLd_c, view_f]
  have := congrArg (·[0]?) e
  simp only [List.getElem?_drop, Nat.add_zero] at this
  simp only [ofs, this]; rfl
theorem ld_pair1 {μ : Mem} {ps : List (Int × Int)} {i : Nat} (h : i < ps.length) : vLd 1 false μ (some (.cp (el ps) (ofs 2 i + 1))) = some (.d (.int .i64 (ix ps i).2)) := by
  have e : (el ps).drop (i * 2) = [.int .i64 (ix ps i).1, .int .i64 (ix ps i).2] ++ el (ps.drop (i + 1)) := by
    rw [el_drop, drop_ix h, el_cons]; rfl
  rw [vLd_c, view_f]
  have := congrArg (·[1]?) e
  simp only [List.getElem?_drop] at this
  simp only [ofs, this]; rfl
end
end Go.Proofs.YtnmbpainnkdonaaDoor
