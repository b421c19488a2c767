/- Chapter 5's examples. -/
import Derived.Test.YtbghnfhfekfenaaDoorTf
import Derived.Test.YtbghnfhfekfenaaDoorTg
set_option linter.unusedSimpArgs false
set_option linter.unusedVariables false
namespace Go.Proofs.YtbghnfhfekfenaaDoor
open Go Go.Proofs.R
set_option maxRecDepth 10000
/-- A table of two rows and columns. -/
def t22 (a b c d : Rat) : List (List RQ) := [[can a, can b], [can c, can d]]
theorem t22_rect (a b c d : Rat) : rectB (t22 a b c d) = true := rfl
theorem t22_dt (a b c d : Rat) : dt 2 (tf (t22 a b c d)) = a * d - b * c := by
  rw [dt2]
  show (can a).v * (can d).v - (can b).v * (can c).v = _
  rw [can_v, can_v, can_v, can_v]
theorem t22_ok {a b c d : Rat} {k : Nat} (h1 : Bq k a) (h2 : Bq k b) (h3 : Bq k c) (h4 : Bq k d) : ∀ r ∈ t22 a b c d, ∀ x ∈ r, x.ok k := by
  intro r hr x hx
  simp only [t22, List.mem_cons, List.not_mem_nil, or_false] at hr
  rcases hr with rfl | rfl <;> simp only [List.mem_cons, List.not_mem_nil, or_false] at hx <;> rcases hx with rfl | rfl
  · exact can_ok h1
  · exact can_ok h2
  · exact can_ok h3
  · exact can_ok h4
theorem bq_small (n : Int) (h : n.natAbs < 4294967296) : Bq 1 (n : Rat) := ⟨by simpa [pw] using h, by simp [pw]⟩
theorem t22_lead {a b c d : Rat} (h : a * d - b * c ≠ 0) : (runR 2 (tf (t22 a b c d)) 2).lead.length = 2 := by
  have h1 := det_zero (n := 2) (tf (t22 a b c d)) (by decide)
  rw [t22_dt] at h1
  have h2 := lead_le 2 (tf (t22 a b c d)) 2
  have h3 : ¬ (runR 2 (tf (t22 a b c d)) 2).lead.length < 2 := fun h4 => h (h1.2 h4)
  omega
section
variable {nv : R.Nv}
theorem det22 (hz : TzOk nv) {a b c d : Rat} (h1 : Bq 1 a) (h2 : Bq 1 b) (h3 : Bq 1 c) (h4 : Bq 1 d) : EX ip nv (.call F.solve_Det [.d (.sl 1 (el (t22 a b c d)))] []) = some (.ret (.tp [.d (.ag (can (a * d - b * c)).c), .d (.int .i64 0)]) []) := by
  have := det_ev (nv := nv) hz (t22 a b c d) (t22_ok h1 h2 h3 h4) (by decide) (by show 5 * (5 ^ 2 * 1) ≤ 1073741824; decide) (by show 2 ≤ 100000; decide) rfl rfl
  have e : detQ (t22 a b c d) = a * d - b * c := by
    have h := det_ok (n := 2) (tf (t22 a b c d)) (by decide)
    rw [t22_dt] at h
    exact h.symm
  rw [e] at this
  exact this
theorem sol22 (hz : TzOk nv) {a b c d p q x y : Rat} (h1 : Bq 1 a) (h2 : Bq 1 b) (h3 : Bq 1 c) (h4 : Bq 1 d) (h5 : Bq 1 p) (h6 : Bq 1 q) (hd : a * d - b * c ≠ 0) (hx : ∀ u v : Rat, a * u + b * v = p → c * u + d * v = q → u = x ∧ v = y) :
    EX ip nv (.call F.solve_Solve [.d (.sl 1 (el (t22 a b c d))), .d (.sl 3 (el [can p, can q]))] []) = some (.ret (.tp [.d (.sl 3 (el [can x, can y])), .d (.int .i64 0)]) []) := by
  have := solve_ev (nv := nv) hz (t22 a b c d) [can p, can q] (t22_ok h1 h2 h3 h4) (fun z hz => by
    simp only [List.mem_cons, List.not_mem_nil, or_false] at hz
    rcases hz with rfl | rfl
    · exact can_ok h5
    · exact can_ok h6) (by decide) (by show 5 * (5 ^ 2 * 1) ≤ 1073741824; decide) (by show 2 ≤ 10000; decide) rfl (by show 2 ≤ 10000; decide) rfl
  have hl : (solS (t22 a b c d) [can p, can q]).lead.length = 2 := by
    have e := bes_lead 2 2 (tf (t22 a b c d)) (fun i _ => (ix [can p, can q] i).v)
    show (runR 2 (besF 2 (tf (t22 a b c d)) fun i _ => (ix [can p, can q] i).v) 2).lead.length = 2
    rw [e]; exact t22_lead hd
  have hc : (∀ i, i < (t22 a b c d).length → (solS (t22 a b c d) [can p, can q]).lead.length ≤ i → (solS (t22 a b c d) [can p, can q]).f i (colsN (t22 a b c d)) = 0) := by
    intro i h1 h2
    rw [hl] at h2
    have : i < 2 := h1
    omega
  rw [if_pos hc, if_pos hc] at this
  have so : ∀ i, i < 2 → sm 2 (fun k => tf (t22 a b c d) i k * solX 2 (solS (t22 a b c d) [can p, can q]) k) = (ix [can p, can q] i).v := fun i hi =>
    sol_ok (R := 2) (n := 2) (f := tf (t22 a b c d)) (b := fun i => (ix [can p, can q] i).v) (fun i h1 h2 => hc i h2 h1) hi
  have s0 := so 0 (by decide)
  have s1 := so 1 (by decide)
  simp only [sm] at s0 s1
  have f00 : tf (t22 a b c d) 0 0 = a := can_v a
  have f01 : tf (t22 a b c d) 0 1 = b := can_v b
  have f10 : tf (t22 a b c d) 1 0 = c := can_v c
  have f11 : tf (t22 a b c d) 1 1 = d := can_v d
  have g0 : (ix [can p, can q] 0).v = p := can_v p
  have g1 : (ix [can p, can q] 1).v = q := can_v q
  rw [f00, f01, g0] at s0
  rw [f10, f11, g1] at s1
  obtain ⟨e1, e2⟩ := hx (solX 2 (solS (t22 a b c d) [can p, can q]) 0) (solX 2 (solS (t22 a b c d) [can p, can q]) 1) (by rw [← s0]; grind) (by rw [← s1]; grind)
  have er : rw' 2 (solX 2 (solS (t22 a b c d) [can p, can q])) = [can x, can y] := by
    show [can (solX 2 (solS (t22 a b c d) [can p, can q]) 0), can (solX 2 (solS (t22 a b c d) [can p, can q]) 1)] = _
    rw [e1, e2]
  have er' : rw' (colsN (t22 a b c d)) (solX (colsN (t22 a b c d)) (solS (t22 a b c d) [can p, can q])) = [can x, can y] := er
  rw [er'] at this
  exact this
theorem awake5_ev (hz : TzOk nv) : EX ip nv (.call F.dendronlaw05_awake [] []) = some (.ret (.d (.bool true)) []) := by
  rw [S_call dendronlaw05_awake.ip rfl]
  have o : ∀ n : Int, -100 ≤ n → n ≤ 100 → EX ip nv (.call F.ratio_Of [.d (.int .i64 n)] []) = some (.ret (.d (.ag (can (n : Rat)).c)) []) := fun n h1 h2 => rof_ev n (by omega) (by omega)
  have o1 := o 1 (by decide) (by decide)
  have o2 := o 2 (by decide) (by decide)
  have o3 := o 3 (by decide) (by decide)
  have o4 := o 4 (by decide) (by decide)
  have om1 := o (-1) (by decide) (by decide)
  have om2 := o (-2) (by decide) (by decide)
  have b1 := bq_small 1 (by decide)
  have b2 := bq_small 2 (by decide)
  have b3 := bq_small 3 (by decide)
  have b4 := bq_small 4 (by decide)
  have bm1 := bq_small (-1) (by decide)
  have bm2 := bq_small (-2) (by decide)
  have dt := det22 (nv := nv) hz b1 b2 b3 b4
  have e1 : ((1 : Int) : Rat) * ((4 : Int) : Rat) - ((2 : Int) : Rat) * ((3 : Int) : Rat) = ((-2 : Int) : Rat) := by decide +kernel
  rw [e1] at dt
  have so := sol22 (nv := nv) hz (x := ((2 : Int) : Rat)) (y := ((1 : Int) : Rat)) b1 b1 b1 bm1 b3 b1 (by decide +kernel) (fun u v h1 h2 => by
    have c1 : ((1 : Int) : Rat) = 1 := rfl
    have c2 : ((2 : Int) : Rat) = 2 := rfl
    have c3 : ((3 : Int) : Rat) = 3 := rfl
    have c4 : ((-1 : Int) : Rat) = -1 := rfl
    rw [c1, c3] at h1
    rw [c1, c4] at h2
    rw [c1, c2]
    constructor <;> grind)
  have sm1 := rsame_ev (nv := nv) hz (can ((-2 : Int) : Rat)) (can ((-2 : Int) : Rat)) (can_ok bm2) (can_ok bm2) (by decide) (by decide) (by decide)
  have sm2 := rsame_ev (nv := nv) hz (can ((2 : Int) : Rat)) (can ((2 : Int) : Rat)) (can_ok b2) (can_ok b2) (by decide) (by decide) (by decide)
  have sm3 := rsame_ev (nv := nv) hz (can ((1 : Int) : Rat)) (can ((1 : Int) : Rat)) (can_ok b1) (can_ok b1) (by decide) (by decide) (by decide)
  simp only [decide_true] at sm1 sm2 sm3
  have set6 : ∀ x y : RQ, setAt (setAt [.bool false, .sl 1 [], .sl 1 [], .bool false, .sl 1 [], .sl 1 []] 0 x.c) 3 y.c = el [x, y] := fun _ _ => rfl
  have set2 : ∀ r s : List RQ, setAt (setAt [.sl 3 [], .sl 3 []] 0 [.sl 3 (el r)]) 1 [.sl 3 (el s)] = el [r, s] := fun _ _ => rfl
  have len6 : ∀ x : RQ, (setAt [D.bool false, .sl 1 [], .sl 1 [], .bool false, .sl 1 [], .sl 1 []] 0 x.c).length = 6 := fun _ => rfl
  have len2 : ∀ r : List RQ, (setAt [D.sl 3 [], .sl 3 []] 0 [.sl 3 (el r)]).length = 2 := fun _ => rfl
  unfold t22 at dt so
  generalize can ((1 : Int) : Rat) = q1 at *
  generalize can ((2 : Int) : Rat) = q2 at *
  generalize can ((3 : Int) : Rat) = q3 at *
  generalize can ((4 : Int) : Rat) = q4 at *
  generalize can ((-1 : Int) : Rat) = q5 at *
  generalize can ((-2 : Int) : Rat) = q6 at *
  have tk0 : ∀ x y : RQ, List.take 3 (el [x, y]) = x.c := fun _ _ => rfl
  have tk1 : ∀ x y : RQ, List.take 3 (List.drop 3 (el [x, y])) = y.c := fun _ _ => rfl
  have i0 : ix [q2, q1] 0 = q2 := rfl
  have i1 : ix [q2, q1] 1 = q1 := rfl
  simp (disch := omega) [-setAt, dendronlaw05_awake, o1, o2, o3, o4, om1, om2, set6, set2, len6, len2, dt, so, sm1, sm2, sm3, i0, i1, tk0, tk1]
end
end Go.Proofs.YtbghnfhfekfenaaDoor
