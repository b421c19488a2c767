/- WeighKept: the law. -/
import Derived.Test.YtgigaimaaijalaaDoorWKa
import Derived.Test.YtgigaimaaijalaaDoorWl
set_option linter.unusedSimpArgs false
set_option linter.unusedVariables false
namespace Go.Proofs.YtgigaimaaijalaaDoor
open Go Go.Proofs.R
set_option maxRecDepth 10000
theorem zI_fac (n : Nat) : zI ((fac n : Nat) : Int) = [.bool false, .sl 1 (us (dig (fac n)))] := by
  unfold zI
  rw [Int.natAbs_natCast]
  simp
theorem setAt_length {α : Type} : ∀ (x l : List α) (i : Nat), (setAt l i x).length = l.length
  | [], _, _ => rfl
  | a :: r, l, i => by rw [setAt, setAt_length r]; simp
/-- The first time: a block of its own. -/
theorem fact_w {c : List D} (h : TS c) (n : Nat) (hn : n ≤ 64) : EX ip2 nv2 (.call F.dendron_weigh_Table_Fact [.ptr 0 0, .d (.int .i64 (n : Int))] [(0, ⟨0, true, c⟩)]) = some (.ret (.tp [.d (.ag [.bool false, .ref 1099511627776 1 0 (dig (fac n)).length]), .d (.int .i64 0)]) ((0, ⟨0, true, c1⟩) :: hput ⟨0, false, us (dig (fac n))⟩ [])) := by
  rw [S_call Wdendron_weigh_Table_Fact.ip rfl]
  have a1 := at2_ev (ip' := ip2) (by rfl) h n hn []
  rw [zI_fac] at a1
  have hl : (dig (fac n)).length ≤ 1099511627776 := Nat.le_trans (fac_len hn) (by decide)
  have hf := fac_pos n
  have cl := wclean_w (nv := nv2) (dig (fac n)) (dig_cl _) hl (by rw [ne_eq, dig_nil]; omega) (dig_last hf) Hp.nil (c := 0) rfl
  have h1 : ¬ (n : Int) < 0 := by omega
  have h2 : ¬ 64 < (n : Int) := by omega
  have hpn : hpart [] = [] := rfl
  have hnn : npart [] = [] := rfl
  have cl' : EX ip2 nv2 (.call F.whole_Clean [.d (.ag [.bool false, .sl 1 (us (dig (fac n)))])] []) = some (.ret (.d (.ag [.bool false, .ref 1099511627776 1 0 (dig (fac n)).length])) (hput ⟨0, false, us (dig (fac n))⟩ [])) := cl
  clear cl
  generalize dig (fac n) = l at *
  obtain ⟨H1, hH1⟩ : ∃ x, hput ⟨0, false, us l⟩ [] = x := ⟨_, rfl⟩
  have hp1 : Hp H1 := hH1 ▸ Hp.nil.hput (by decide) _
  rw [hH1] at cl' ⊢
  generalize c1 = cc at *
  simp (disch := omega) [Wdendron_weigh_Table_Fact, h1, h2, a1, cl', hpart_cons, npart_cons, hpn, hnn, hp1.aget, hp1.aput, hp1.adel, hp1.hpart, hp1.npart, hp1.keeps]
/-- Beside a heap: data. -/
theorem fact_v (n : Nat) (hn : n ≤ 64) {H : Mem} (hp : Hp H) : EX ip3 nv2 (.call F.dendron_weigh_Table_Fact [.ptr 0 0, .d (.int .i64 (n : Int))] ((0, ⟨0, true, c1⟩) :: H)) = some (.ret (.tp [.d (.ag (zI ((fac n : Nat) : Int))), .d (.int .i64 0)]) ((0, ⟨0, true, c1⟩) :: H)) := by
  rw [S_call Vdendron_weigh_Table_Fact.ip rfl]
  have a1 := at2_ev (ip' := ip3) (by rfl) (.inr rfl) n hn H
  have cl : EX ip3 nv2 (.call F.whole_Clean [.d (.ag (zI ((fac n : Nat) : Int)))] []) = some (.ret (.d (.ag (zI ((fac n : Nat) : Int)))) []) := n2_ev (by rfl) (by decide) (wclean_z ((fac n : Nat) : Int) (Nat.le_trans (fac_len' hn) (by decide)))
  have h1 : ¬ (n : Int) < 0 := by omega
  have h2 : ¬ 64 < (n : Int) := by omega
  rw [zI_fac] at a1 cl ⊢
  generalize dig (fac n) = l at *
  generalize c1 = cc at *
  simp (disch := omega) [Vdendron_weigh_Table_Fact, h1, h2, a1, cl, nref, nrefL, hpart_cons, npart_cons, hp.aget, hp.aput, hp.adel, hp.hpart, hp.npart, hp.keeps]
theorem fact4a {c : List D} (h : TS c) (n : Nat) (hn : n ≤ 64) : EX ip4 nv4 (.call F.dendron_weigh_Table_Fact [.ptr 0 0, .d (.int .i64 (n : Int))] [(0, ⟨0, true, c⟩)]) = some (.ret (.tp [.d (.ag [.bool false, .ref 1099511627776 1 0 (dig (fac n)).length]), .d (.int .i64 0)]) ((0, ⟨0, true, c1⟩) :: hput ⟨0, false, us (dig (fac n))⟩ [])) := by
  rw [EX_nat (by rfl)]
  have : nv4 F.dendron_weigh_Table_Fact [.ptr 0 0, .d (.int .i64 (n : Int))] [(0, ⟨0, true, c⟩)] = some (.tp [.d (.ag [.bool false, .ref 1099511627776 1 0 (dig (fac n)).length]), .d (.int .i64 0)], (0, ⟨0, true, c1⟩) :: hput ⟨0, false, us (dig (fac n))⟩ []) := by
    unfold nv4
    rw [if_pos rfl, if_pos (by rfl), fact_w h n hn]
  rw [this]; rfl
theorem fact4b (n : Nat) (hn : n ≤ 64) {H : Mem} (hp : Hp H) (hc : (aget H 1099511627775).isNone = false) : EX ip4 nv4 (.call F.dendron_weigh_Table_Fact [.ptr 0 0, .d (.int .i64 (n : Int))] ((0, ⟨0, true, c1⟩) :: H)) = some (.ret (.tp [.d (.ag (zI ((fac n : Nat) : Int))), .d (.int .i64 0)]) ((0, ⟨0, true, c1⟩) :: H)) := by
  rw [EX_nat (by rfl)]
  have hh : (aget ((0, (⟨0, true, c1⟩ : Blk)) :: H) 1099511627775).isNone = false := by rw [aget_suc (by decide)]; exact hc
  have : nv4 F.dendron_weigh_Table_Fact [.ptr 0 0, .d (.int .i64 (n : Int))] ((0, ⟨0, true, c1⟩) :: H) = some (.tp [.d (.ag (zI ((fac n : Nat) : Int))), .d (.int .i64 0)], (0, ⟨0, true, c1⟩) :: H) := by
    unfold nv4
    rw [if_pos rfl, if_neg (by rw [hh]; decide), fact_v n hn hp]
  rw [this]; rfl
/-- What the block of the result's own holds while it is written. -/
structure KH (H : Mem) (m : Nat) : Prop where
  hp : Hp H
  cnt : (aget H 1099511627775).isNone = false
  blk : ∃ cs, cs.length = m ∧ aget H 1099511627776 = some ⟨0, false, cs⟩
theorem KH.put {H : Mem} {m : Nat} (h : KH H m) {cs : List D} (hc : cs.length = m) : KH (aput 1099511627776 ⟨0, false, cs⟩ H) m :=
  ⟨h.hp.put (by decide) _, by rw [aget_aput_ne (by decide)]; exact h.cnt, cs, hc, aget_aput_same _ _ _⟩
theorem KH.first (B : List D) : KH (hput ⟨0, false, B⟩ []) B.length := ⟨Hp.nil.hput (by decide) _, rfl, B, rfl, rfl⟩
theorem kept_b0 (n m : Nat) (hm : m ≤ 1000000) (c : List D) {H : Mem} (h : KH H m) :
    ∃ z e μ, EX ip4 nv4 (.code (.loop [] [] Wdendronlaw14_WeighKept.b0) [(0, .d (.int .i64 (n : Int))), (3, .ptr 16 0), (4, .ptr 4 0), (6, .d (.int .i64 0))] ((4, ⟨0, true, [.bool false, .ref 1099511627776 1 0 m]⟩) :: (16, ⟨0, false, c⟩) :: H)) = some (.st z e μ) ∧ z ≠ .normal ∧
      ∃ H', KH H' m ∧ z = .exit 0 ∧ e = [(0, .d (.int .i64 (n : Int))), (3, .ptr 16 0), (4, .ptr 4 0), (6, .d (.int .i64 (m : Int))), (27, .d (.bool false))] ∧ μ = ((4, ⟨0, true, [.bool false, .ref 1099511627776 1 0 m]⟩) :: (16, ⟨0, false, c⟩) :: H') := by
  refine loop_n m (fun i e μ => ∃ H', KH H' m ∧ e = [(0, .d (.int .i64 (n : Int))), (3, .ptr 16 0), (4, .ptr 4 0), (6, .d (.int .i64 (i : Int)))] ∧ μ = ((4, ⟨0, true, [.bool false, .ref 1099511627776 1 0 m]⟩) :: (16, ⟨0, false, c⟩) :: H')) ?_ ?_ ⟨H, h, rfl, rfl⟩
  · rintro i e μ hi ⟨H', h', rfl, rfl⟩
    obtain ⟨cs, hcs, hb⟩ := h'.blk
    have hp := h'.hp
    have h2 := h'.put (cs := setAt cs i [.int .u64 7]) (by rw [setAt_length]; exact hcs)
    refine .inl ⟨_, _, ?_, _, h2, rfl, rfl⟩
    have hp2 := h2.hp
    have hi1 : i + 1 ≤ m := by omega
    simp (disch := omega) [-vIA_o, -setAt, Wdendronlaw14_WeighKept.b0, hi, hi1, hb, hcs, hp.aget, hp.aput, hp.adel, hp2.aget, hp2.aput, hp2.adel]
  · rintro e μ ⟨H', h', rfl, rfl⟩
    obtain ⟨cs, hcs, hb⟩ := h'.blk
    refine ⟨.exit 0, _, _, ?_, by simp, H', h', rfl, rfl, rfl⟩
    simp (disch := omega) [Wdendronlaw14_WeighKept.b0, hb] <;> first | rfl | exact ⟨rfl, rfl⟩
theorem kept_ev (n : Int) : ∃ μ, EX ip4 nv4 (.call F.dendronlaw14_WeighKept [.d (.int .i64 n)] []) = some (.ret (.d (.bool true)) μ) := by
  rw [S_call tab4_ip rfl]
  have aw : EX ip4 nv4 (.call F.dendronlaw14_awake [] []) = some (.ret (.d (.bool true)) []) := n4_ev (by rfl) (by decide) (by decide) awake14_ev
  have nw : EX ip4 nv4 (.call F.weigh_New [] []) = some (.ret (.ptr 2 0) [(2, ⟨0, false, c0⟩)]) := n4_ev (by rfl) (by decide) (by decide) new_ev
  by_cases hn : n < 0 ∨ 64 < n
  · refine ⟨[], ?_⟩
    by_cases h1 : n < 0
    · simp (disch := omega) [Wdendronlaw14_WeighKept, aw, h1]
    · have h2 : 64 < n := by omega
      simp (disch := omega) [Wdendronlaw14_WeighKept, aw, h1, h2]
  · obtain ⟨k, rfl⟩ : ∃ k : Nat, n = (k : Int) := ⟨n.toNat, by omega⟩
    have hk : k ≤ 64 := by omega
    have fa := fact4a (c := c0) (.inl rfl) k hk
    have hlen : (dig (fac k)).length ≤ 1000000 := Nat.le_trans (fac_len hk) (by decide)
    have k1 := KH.first (us (dig (fac k)))
    rw [us_len] at k1
    obtain ⟨H1, hH1⟩ : ∃ x, hput ⟨0, false, us (dig (fac k))⟩ [] = x := ⟨_, rfl⟩
    rw [hH1] at fa k1
    obtain ⟨_, _, _, l0, -, H2, k2, rfl, rfl, rfl⟩ := kept_b0 k (dig (fac k)).length hlen c1 k1
    have fb := fact4b k hk k2.hp k2.cnt
    have ri : EX ip4 nv4 (.call F.ratio_Int [.d (.ag (zI ((fac k : Nat) : Int)))] []) = some (.ret (.d (.ag (can (fq k)).c)) []) := n4_ev (by rfl) (by decide) (by decide) (rint_z (nv := nv1) (fac k) (Nat.le_trans (fac_len hk) (by decide)))
    have f : EX ip4 nv4 (.call F.dendronlaw14_fact [.d (.int .i64 (k : Int))] []) = some (.ret (.d (.ag (can (fq k)).c)) []) := n4_ev (by rfl) (by decide) (by decide) (fact14_ev tzOk1 k hk)
    have sm : EX ip4 nv4 (.call F.ratio_Same [.d (.ag (can (fq k)).c), .d (.ag (can (fq k)).c)] []) = some (.ret (.d (.bool true)) []) := by
      have sm := rsame_ev tzOk1 (can (fq k)) (can (fq k)) (can_ok (fq_b hk)) (can_ok (fq_b hk)) (by omega) (by omega) (by omega)
      simp only [decide_true] at sm
      exact n4_ev (by rfl) (by decide) (by decide) sm
    have h1 : ¬ (k : Int) < 0 := by omega
    have h2 : ¬ 64 < (k : Int) := by omega
    have hp1 := k1.hp
    have hp2 := k2.hp
    have hpn : hpart [] = [] := rfl
    have hnn : npart [] = [] := rfl
    refine ⟨H2, ?_⟩
    rw [zI_fac] at fb ri
    generalize can (fq k) = q at *
    generalize dig (fac k) = l at *
    generalize c0 = cz at *
    generalize c1 = co at *
    simp (disch := omega) [Wdendronlaw14_WeighKept, h1, h2, aw, nw, fa, l0, fb, ri, f, sm, nref, nrefL, hpart_cons, npart_cons, hpn, hnn, hp1.aget, hp1.aput, hp1.adel, hp1.hpart, hp1.npart, hp2.aget, hp2.aput, hp2.adel, hp2.hpart, hp2.npart, hp2.keeps]
end Go.Proofs.YtgigaimaaijalaaDoor
