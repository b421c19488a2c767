/- The products of all numbers up to one. -/
import Derived.Test.YtgigaimaaijalaaDoorOb
import Derived.Test.YtgigaimaaijalaaDoorRd
set_option linter.unusedSimpArgs false
set_option linter.unusedVariables false
namespace Go.Proofs.YtgigaimaaijalaaDoor
open Go Go.Proofs.R
set_option maxRecDepth 10000
/-- A whole number in its form, as two cells. -/
structure Zn where
  z : Int
instance : Enc Zn 2 true := ⟨fun x => .ag (zI x.z), fun _ => rfl, by decide, fun _ => ⟨fun _ => rfl, by simp⟩⟩
instance : Inhabited Zn := ⟨⟨0⟩⟩
@[simp] theorem d_zn (x : Zn) : Enc.d x = D.ag (zI x.z) := rfl
@[simp] theorem zI_len (z : Int) : (zI z).length = 2 := rfl
@[simp high] theorem set_zI {x y : D} {z : Int} : setAt [x, y] 0 (zI z) = zI z := rfl
@[simp high] theorem set_zI2 {y z : Int} : setAt (zI y) 0 (zI z) = zI z := rfl
@[simp high] theorem take_zI {z : Int} : (zI z).take 2 = zI z := rfl
theorem el_zn1 (z : Int) : zI z = el [(⟨z⟩ : Zn)] := by simp [el]
section
variable {g : Task → Option Out} {r : List I} {d : Nat} {e : Env} {μ : Mem}
@[simp high] theorem app_zn {bytes b n p : Nat} {z : Int} {l : List Zn} (h : n ≤ l.length) (hp : p ≤ n * 2) (hs : (n * 2 + 2) * bytes ≤ 140737488355328) : kApp.kAppB g r d e μ 2 bytes b 2 0 n 2 (zI z) (some ⟨p, false, el l⟩) = exIs g r (aput d (.own b 2 0 (n + 1)) (drop b e)) (aput b ⟨p, false, el (l.take n ++ [⟨z⟩])⟩ μ) := by
  have := app_el (g := g) (r := r) (d := d) (e := e) (μ := μ) (bytes := bytes) (b := b) (p := p) (m := [(⟨z⟩ : Zn)]) h (by omega) (by simpa using hs)
  simpa [← el_zn1] using this
end
def fac : Nat → Nat
  | 0 => 1
  | n + 1 => fac n * (n + 1)
theorem fac_pos : ∀ n, 0 < fac n
  | 0 => by decide
  | n + 1 => Nat.mul_pos (fac_pos n) (by omega)
theorem fac_mono {m n : Nat} (h : m ≤ n) : fac m ≤ fac n := by
  induction h with
  | refl => exact Nat.le_refl _
  | step _ ih => exact Nat.le_trans ih (Nat.le_mul_of_pos_right _ (by omega))
theorem fac_pw {n : Nat} (h : n ≤ 64) : fac n < pw 10 := Nat.lt_of_le_of_lt (fac_mono h) (by decide +kernel)
theorem fac_len {n : Nat} (h : n ≤ 64) : (dig (fac n)).length ≤ 10 := dig_len_le.2 (fac_pw h)
theorem fac_len' {n : Nat} (h : n ≤ 64) : (dig ((fac n : Nat) : Int).natAbs).length ≤ 10 := by rw [Int.natAbs_natCast]; exact fac_len h
def facL (n : Nat) : List Zn := (List.range n).map fun i => ⟨(fac i : Nat)⟩
@[simp] theorem facL_len (n : Nat) : (facL n).length = n := by simp [facL]
theorem facL_succ (n : Nat) : facL (n + 1) = facL n ++ [⟨(fac n : Nat)⟩] := by simp [facL, List.range_succ]
theorem facL_get {n i : Nat} (h : i < n) : (facL n)[i]? = some ⟨(fac i : Nat)⟩ := by simp [facL, h]
section
variable {nv : R.Nv}
theorem wmul_z (a b : Int) (ha : (dig a.natAbs).length ≤ 1099511627775) (hb : (dig b.natAbs).length ≤ 1099511627775) : EX ip nv (.call F.whole_Mul [.d (.ag (zI a)), .d (.ag (zI b))] []) = some (.ret (.d (.ag (zI (a * b)))) []) := wMul_c a b ha hb
theorem products_ev : EX ip nv (.call F.weigh_products [] []) = some (.ret (.d (.sl 2 (el (facL 65)))) []) := by
  rw [S_call weigh_products.ip rfl]
  have w1 := wOf_ev (nv := nv) 1 (by omega) (by omega)
  obtain ⟨_, _, _, hr, -, rfl, rfl, z, rfl⟩ : ∃ z e μ, EX ip nv (.code (.loop [] [] weigh_products.b0) [(1, .ptr 1 0), (2, .own 6 2 0 1), (7, .d (.int .i64 0))] [(1, ⟨0, true, zI 1⟩), (6, ⟨0, false, zI 1⟩)]) = some (.st z e μ) ∧ z ≠ .normal ∧
      z = .exit 0 ∧ e = [(1, .ptr 1 0), (2, .own 6 2 0 65), (7, .d (.int .i64 64)), (8, .d (.bool false))] ∧ ∃ z, μ = [(1, ⟨0, true, zI z⟩), (6, ⟨0, false, el (facL 65)⟩)] := by
    refine loop_n 64 (fun i e μ => ∃ (z : Int) (a : List Zn), z = (fac i : Nat) ∧ a = facL (i + 1) ∧ e = [(1, .ptr 1 0), (2, .own 6 2 0 a.length), (7, .d (.int .i64 (i : Int)))] ∧ μ = [(1, ⟨0, true, zI z⟩), (6, ⟨0, false, el a⟩)]) ?_ ?_ ⟨1, facL 1, rfl, rfl, rfl, by rw [el_zn1]; rfl⟩
    · rintro i e μ hi ⟨z, a, hz, ha, rfl, rfl⟩
      have hal : a.length = i + 1 := by rw [ha]; simp
      have of := wOf_ev (nv := nv) ((i : Int) + 1) (by omega) (by omega)
      have ml := wmul_z (nv := nv) z ((i : Int) + 1) (by rw [hz]; exact Nat.le_trans (fac_len' (by omega)) (by decide)) (Nat.le_trans (dig_len_le.2 (show ((i : Int) + 1).natAbs < pw 1 by simp [pw]; omega)) (by decide))
      refine .inl ⟨_, _, ?_, z * ((i : Int) + 1), a ++ [⟨z * ((i : Int) + 1)⟩], by rw [hz, fac]; simp, by rw [facL_succ, ha, hz, fac]; simp, rfl, rfl⟩
      clear hz ha
      generalize z * ((i : Int) + 1) = y at *
      have hi' : (i : Int) < 64 := by omega
      simp (disch := omega) [weigh_products.b0, hi', of, ml]
    · rintro e μ ⟨z, a, hz, ha, rfl, rfl⟩
      subst ha
      exact ⟨.exit 0, _, _, by simp [weigh_products.b0] <;> first | rfl | exact ⟨rfl, rfl⟩, by simp, by simp, by simp, _, rfl⟩
  simp (disch := first | omega | simp) [weigh_products, w1, hr]
end
end Go.Proofs.YtgigaimaaijalaaDoor
