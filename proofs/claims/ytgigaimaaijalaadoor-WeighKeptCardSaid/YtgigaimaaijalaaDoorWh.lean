/- The table's at as a native; what it answers. -/
import Derived.Test.YtgigaimaaijalaaDoorWf
import Derived.Test.YtgigaimaaijalaaDoorWg
set_option linter.unusedSimpArgs false
set_option linter.unusedVariables false
namespace Go.Proofs.YtgigaimaaijalaaDoor
open Go Go.Proofs.R
/-- The products, as a table's cells. -/
def facD : List D := el (facL 65)
theorem facD_get {n : Nat} (h : n ≤ 64) : facD[2 * n]? = some (.bool false) ∧ facD[2 * n + 1]? = some (.sl 1 (us (dig (fac n)))) := by
  have hd := view_el (l := facL 65) (i := n) (by simp; omega)
  rw [view_t] at hd
  split at hd
  · rename_i hl
    have hx : ix (facL 65) n = ⟨(fac n : Nat)⟩ := by
      have := ix_in (l := facL 65) (i := n) (by simp; omega)
      rw [facL_get (by omega)] at this
      exact (Option.some.inj this).symm
    rw [hx] at hd
    have h1 : (facD.drop (n * 2)).take 2 = zI ((fac n : Nat) : Int) := by
      have := Option.some.inj hd
      rw [d_zn] at this
      exact D.ag.inj this
    have h2 : zI ((fac n : Nat) : Int) = [.bool false, .sl 1 (us (dig (fac n)))] := by
      unfold zI
      rw [Int.natAbs_natCast]
      simp
    rw [h2] at h1
    constructor
    · have := congrArg (·[0]?) h1
      simpa [List.getElem?_take, Nat.mul_comm] using this
    · have := congrArg (·[1]?) h1
      simpa [List.getElem?_take, Nat.mul_comm] using this
  · cases hd
/-- What 'at' answers, in a table that has made its products and in one that has not. -/
def AtRel (args : List V) (μ : Mem) (r : V × Mem) : Prop :=
  ∃ (n : Nat) (s x : D) (d : Int) (H : Mem), n ≤ 64 ∧ args = [.ptr 0 0, .d (.int .i64 (n : Int))] ∧ μ = (0, tabB d s x) :: H ∧ (d = 0 ∨ (d = 1 ∧ x = .sl 2 facD)) ∧ r = (.d (.ag (zI ((fac n : Nat) : Int))), (0, tabB 1 s (.sl 2 facD)) :: H)
theorem AtRel.one {args : List V} {μ : Mem} {r r' : V × Mem} (h : AtRel args μ r) (h' : AtRel args μ r') : r = r' := by
  obtain ⟨n, s, x, d, H, -, rfl, rfl, -, rfl⟩ := h
  obtain ⟨n', s', x', d', H', -, h1, h2, -, rfl⟩ := h'
  simp [tabB] at h1 h2
  obtain ⟨⟨-, rfl, -⟩, rfl⟩ := h2
  have : n = n' := by omega
  subst this
  rfl
open Classical in
noncomputable def nv1 : R.Nv := fun f args μ => if f = 23 then (if h : ∃ r, AtRel args μ r then some h.choose else none) else nv f args μ
theorem nv1_at {args : List V} {μ : Mem} {r : V × Mem} (h : AtRel args μ r) : nv1 23 args μ = some r := by
  have hh : ∃ r, AtRel args μ r := ⟨r, h⟩
  unfold nv1
  rw [if_pos rfl, dif_pos hh]
  exact congrArg some (AtRel.one hh.choose_spec h)
theorem tzOk1 : TzOk nv1 := by
  intro x h0 h1
  obtain ⟨z, a, b, c, d⟩ := tzOk x h0 h1
  refine ⟨z, a, b, c, ?_⟩
  unfold nv1
  rw [if_neg (by decide)]
  exact d
set_option maxRecDepth 100000 in
theorem prog_ok1 {o : Obj} (ho : TabObj o) : ProgOK Tryd.prog [(0, o)] ip nv1 where
  code f fn h := tab_ok _ (aget_mem h)
  nat f args μ r μr hip h := by
    unfold nv1 at h
    split at h
    · rename_i hf
      subst hf
      split at h
      · rename_i hh
        have hs := hh.choose_spec
        rw [Option.some.inj h] at hs
        obtain ⟨n, s, x, d, H, hn, rfl, rfl, hd, he⟩ := hs
        obtain ⟨rfl, rfl⟩ := Prod.mk.inj he
        obtain ⟨g0, g1⟩ := facD_get hn
        have hz : zI ((fac n : Nat) : Int) = [.bool false, .sl 1 (us (dig (fac n)))] := by
          unfold zI
          rw [Int.natAbs_natCast]
          simp
        rw [hz]
        rcases hd with rfl | ⟨rfl, rfl⟩
        · exact at_ok_first s x facD n false _ g0 g1 (EX_ok (prog_ok ho) products_ev)
        · exact at_ok_again 1 (by decide) s facD n false _ g0 g1
      · cases h
    · exact (prog_ok ho).nat f args μ r μr hip h
end Go.Proofs.YtgigaimaaijalaaDoor
