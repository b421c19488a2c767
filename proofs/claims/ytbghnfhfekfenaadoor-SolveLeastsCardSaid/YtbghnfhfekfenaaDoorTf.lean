/- Systems, as the program solves them. -/
import Derived.Test.YtbghnfhfekfenaaDoorTe
set_option linter.unusedSimpArgs false
set_option linter.unusedVariables false
namespace Go.Proofs.YtbghnfhfekfenaaDoor
open Go Go.Proofs.R
set_option maxRecDepth 10000
/-- A table with the right side beside it. -/
def solF (a : List (List RQ)) (b : List RQ) : Tb := besF (colsN a) (tf a) fun i _ => (ix b i).v
abbrev solS (a : List (List RQ)) (b : List RQ) : Rs := runR a.length (solF a b) (colsN a)
/-- What is told, so far. -/
def solI (C : Nat) (s : Rs) (i : Nat) : Nat → Rat := fun j => sm i (fun i' => if j = ix s.lead i' then s.f i' C else 0)
theorem solI_step {R C : Nat} {f0 : Tb} {s : Rs} (h : Inv R f0 s C) {i : Nat} (hi : i < s.lead.length) : (rw' C (solI C s i)).set (ix s.lead i) (can (s.f i C)) = rw' C (solI C s (i + 1)) := by
  rw [rw_set]
  apply rw_congr
  intro j hj
  unfold solI
  simp only [sm]
  by_cases e : j = ix s.lead i
  · rw [if_pos e, if_pos e, sm_zero]
    · grind
    · intro k hk
      rw [if_neg]
      rw [e]
      intro e2
      have := h.inc k i hk hi
      omega
  · rw [if_neg e, if_neg e]; grind
theorem right_ix {b : List RQ} {i : Nat} (hi : i < b.length) : ix (b.map fun x => [x]) i = [ix b i] := by
  rw [ix_get (by simpa using hi), List.getElem_map, ix_get hi]
theorem sol_b {a : List (List RQ)} {b : List RQ} {k : Nat} (ha : ∀ r ∈ a, ∀ x ∈ r, x.ok k) (hb : ∀ x ∈ b, x.ok k) (hk0 : 1 ≤ k) (hr : rectB a = true) (hbl : b.length = a.length) : ∀ i j, i < a.length → j < colsN a + 1 → Bq k (solF a b i j) := by
  intro i j hi hj
  unfold solF besF
  split
  · exact tf_b ha hk0 hr i j hi (by assumption)
  · exact Bq.v (hb _ (ix_mem (by omega))) hk0
section
variable {nv : R.Nv}
/-- The right side's rows of one. -/
theorem solve_b0 (a b : List RQ) (A : D) (R C : Nat) (hb : b.length ≤ 1000000) :
    ∃ z e μ, EX ip nv (.code (.loop [] [] solve_Solve.b0) [(0, .d A), (6, .d (.int .i64 (R : Int))), (7, .d (.int .i64 (C : Int))), (9, .own 9 1 0 0), (32, .d (.sl 3 (el b))), (33, .d (.int .i64 (b.length : Int))), (34, .d (.int .i64 0))] [(9, ⟨0, false, []⟩)]) = some (.st z e μ) ∧ z ≠ .normal ∧
      z = .exit 0 ∧ e = [(0, .d A), (6, .d (.int .i64 (R : Int))), (7, .d (.int .i64 (C : Int))), (9, .own 9 1 0 b.length), (32, .d (.sl 3 (el b))), (33, .d (.int .i64 (b.length : Int))), (34, .d (.int .i64 (b.length : Int))), (35, .d (.bool false))] ∧ μ = [(9, ⟨0, false, el (b.map fun x => [x])⟩)] := by
  refine loop_n b.length (fun i e μ => e = [(0, .d A), (6, .d (.int .i64 (R : Int))), (7, .d (.int .i64 (C : Int))), (9, .own 9 1 0 i), (32, .d (.sl 3 (el b))), (33, .d (.int .i64 (b.length : Int))), (34, .d (.int .i64 (i : Int)))] ∧ μ = [(9, ⟨0, false, el ((b.take i).map fun x => [x])⟩)]) ?_ ?_ ⟨rfl, rfl⟩
  · rintro i e μ hi ⟨rfl, rfl⟩
    have hlen : ((b.take i).map fun x => [x]).length = i := by simp; omega
    have htk : ((b.take (i + 1)).map fun x => [x]) = ((b.take i).map fun x => [x]) ++ [[ix b i]] := by
      rw [List.take_add_one, List.map_append]
      have : b[i]? = some (ix b i) := by simp [ix, hi]
      rw [this]; rfl
    have ht2 : List.take i ((b.take i).map fun x => [x]) = (b.take i).map fun x => [x] := List.take_of_length_le (by omega)
    have e1 : el [[ix b i]] = [D.sl 3 (ix b i).c] := by simp [el]
    have hby : (i + 1) * 24 ≤ 70368744177664 := by omega
    refine .inl ⟨_, _, ?_, rfl, rfl⟩
    rw [htk]
    generalize ((b.take i).map fun x => [x]) = g at *
    have hcat : List.take i (el g) ++ [D.sl 3 (ix b i).c] = el (g ++ [[ix b i]]) := by
      rw [List.take_of_length_le (by rw [el_len]; omega), ← el_app, e1]
    simp (disch := omega) [-vIA_o, solve_Solve.b0, hi, hlen, ht2, hby, hcat]
  · rintro e μ ⟨rfl, rfl⟩
    rw [List.take_length]
    exact ⟨.exit 0, _, _, by simp [solve_Solve.b0] <;> first | rfl | exact ⟨rfl, rfl⟩, by simp, rfl, rfl, rfl⟩
/-- Is there something beside the rows of 0? -/
theorem solve_b2 (hz : TzOk nv) {n T : Nat} {ids : Nat → Nat} {R C : Nat} {s : Rs} {B : Nat} (hb : ∀ i k, i < R → k < C + 1 → Bq B (s.f i k)) (hB : 1 ≤ B) (hB1 : B ≤ 1073741824) (hR : R ≤ 1000000) (hlen : s.lead.length ≤ R) (cs : List D)
    {H : Mem} (h : HT H n T ids R (C + 1) s.f) :
    ∃ z e μ, EX ip nv (.code (.loop [] [] solve_Solve.b2) [(6, .d (.int .i64 (R : Int))), (7, .d (.int .i64 (C : Int))), (12, .ptr 49 0), (13, .d (.int .i64 (s.lead.length : Int)))] ((49, ⟨0, false, .ref (1099511627776 + T) 1 0 R :: cs⟩) :: H)) = some (.st z e μ) ∧ z ≠ .normal ∧
      ((z = .ret ∧ (∃ i, s.lead.length ≤ i ∧ i < R ∧ s.f i C ≠ 0) ∧ e = [(4, .d (.sl 3 [])), (5, .d (.int .i64 17))] ∧ μ = H) ∨
       (z = .exit 2 ∧ (∀ i, s.lead.length ≤ i → i < R → s.f i C = 0) ∧ e = [(6, .d (.int .i64 (R : Int))), (7, .d (.int .i64 (C : Int))), (12, .ptr 49 0), (13, .d (.int .i64 (R : Int))), (59, .d (.bool false))] ∧ μ = ((49, ⟨0, false, .ref (1099511627776 + T) 1 0 R :: cs⟩) :: H))) := by
  refine loop_n (R - s.lead.length) (fun i e μ => (∀ j, s.lead.length ≤ j → j < s.lead.length + i → s.f j C = 0) ∧ e = [(6, .d (.int .i64 (R : Int))), (7, .d (.int .i64 (C : Int))), (12, .ptr 49 0), (13, .d (.int .i64 ((s.lead.length + i : Nat) : Int)))] ∧ μ = ((49, ⟨0, false, .ref (1099511627776 + T) 1 0 R :: cs⟩) :: H)) ?_ ?_ ⟨fun j h1 h2 => by omega, rfl, rfl⟩
  · rintro i e μ hi ⟨hj, rfl, rfl⟩
    obtain ⟨m, hm⟩ : ∃ m, m = s.lead.length + i := ⟨_, rfl⟩
    rw [← hm] at hj ⊢
    have hmR : m < R := by omega
    have hc : C < C + 1 := by omega
    have ht := h.tab
    have hrow := h.row m hmR
    have hget := refs_get (ids := ids) (C := C + 1) hmR
    have sg := rsign_ev (nv := nv) hz (can (s.f m C)) (can_ok (hb m C hmR hc)) hB hB1
    rw [can_v] at sg
    have hix := rw_ix (s.f m) hc
    have hlen := rw_len (C + 1) (s.f m)
    have hlt : C < (rw' (C + 1) (s.f m)).length := by omega
    by_cases h0 : s.f m C = 0
    · refine .inl ⟨_, _, ?_, fun j h1 h2 => ?_, rfl, rfl⟩
      · have hs : (s.f m C).num.sign = 0 := by rw [sign_zero]; exact h0
        rw [hs] at sg
        rw [show s.lead.length + (i + 1) = m + 1 by omega]
        generalize can (s.f m C) = q at *
        generalize rw' (C + 1) (s.f m) = g at *
        simp (disch := omega) [-vIA_o, solve_Solve.b2, ht, hrow, hget, hix, hmR, sg, h.hp.aget]
      · by_cases hjm : j = m
        · rw [hjm]; exact h0
        · exact hj j h1 (by omega)
    · refine .inr ⟨.ret, _, _, ?_, by simp, .inl ⟨rfl, ⟨m, by omega, hmR, h0⟩, rfl, rfl⟩⟩
      have hs : (s.f m C).num.sign ≠ 0 := by rw [ne_eq, sign_zero]; exact h0
      generalize (s.f m C).num.sign = sg' at *
      generalize can (s.f m C) = q at *
      generalize rw' (C + 1) (s.f m) = g at *
      simp (disch := omega) [-vIA_o, solve_Solve.b2, ht, hrow, hget, hix, hmR, sg, hs, h.hp.aget, h.hp.adel]
  · rintro e μ ⟨hj, rfl, rfl⟩
    rw [show s.lead.length + (R - s.lead.length) = R by omega] at *
    refine ⟨.exit 2, _, _, ?_, by simp, .inr ⟨rfl, hj, rfl, rfl⟩⟩
    simp [solve_Solve.b2]
theorem solve_b4 (C : Nat) (hC : C ≤ 1000000) (B : Blk) {H : Mem} (hp : Hp H) :
    ∃ z e μ, EX ip nv (.code (.loop [] [] solve_Solve.b4) [(7, .d (.int .i64 (C : Int))), (12, .ptr 49 0), (14, .own 75 3 0 C), (77, .d (.int .i64 (C : Int))), (78, .d (.int .i64 0))] ((49, B) :: (75, ⟨0, false, el (rq' C (zr 0))⟩) :: H)) = some (.st z e μ) ∧ z ≠ .normal ∧
      z = .exit 4 ∧ e = [(7, .d (.int .i64 (C : Int))), (12, .ptr 49 0), (14, .own 75 3 0 C), (77, .d (.int .i64 (C : Int))), (78, .d (.int .i64 (C : Int))), (79, .d (.bool false))] ∧ μ = ((49, B) :: (75, ⟨0, false, el (rw' C (fun _ => 0))⟩) :: H) := by
  refine loop_n C (fun i e μ => e = [(7, .d (.int .i64 (C : Int))), (12, .ptr 49 0), (14, .own 75 3 0 C), (77, .d (.int .i64 (C : Int))), (78, .d (.int .i64 (i : Int)))] ∧ μ = ((49, B) :: (75, ⟨0, false, el (rq' C (zr i))⟩) :: H)) ?_ ?_ ⟨rfl, rfl⟩
  · rintro i e μ hi ⟨rfl, rfl⟩
    have hz0 := zero_ev (nv := nv)
    have hs := zr_set (C := C) (i := i)
    have hlen := rq_len C (zr i)
    refine .inl ⟨_, _, ?_, rfl, rfl⟩
    generalize rq' C (zr (i + 1)) = g' at *
    generalize rq' C (zr i) = g at *
    generalize can 0 = q at *
    simp (disch := omega) [-vIA_o, solve_Solve.b4, hi, hz0, hs, hlen]
  · rintro e μ ⟨rfl, rfl⟩
    rw [zr_all]
    exact ⟨.exit 4, _, _, by simp [solve_Solve.b4] <;> first | rfl | exact ⟨rfl, rfl⟩, by simp, rfl, rfl, rfl⟩
theorem solve_b6 {n T : Nat} {ids : Nat → Nat} {R C L : Nat} {s : Rs} {f0 : Tb} (hi0 : Inv R f0 s C) (hC : C ≤ 1000000) (hR : R ≤ 1000000) (cs : List D)
    {H : Mem} (h : HT H n T ids R (C + 1) s.f) (hl : HL H n T ids R L s.lead) (hln : s.lead ≠ []) :
    ∃ z e μ, EX ip nv (.code (.loop [] [] solve_Solve.b6) [(7, .d (.int .i64 (C : Int))), (12, .ptr 49 0), (14, .own 75 3 0 C), (89, .own (1099511627776 + L) 1 0 s.lead.length), (90, .d (.int .i64 (s.lead.length : Int))), (91, .d (.int .i64 0))] ((49, ⟨0, false, .ref (1099511627776 + T) 1 0 R :: cs⟩) :: (75, ⟨0, false, el (rw' C (fun _ => 0))⟩) :: H)) = some (.st z e μ) ∧ z ≠ .normal ∧
      z = .exit 6 ∧ e = [(7, .d (.int .i64 (C : Int))), (12, .ptr 49 0), (14, .own 75 3 0 C), (89, .own (1099511627776 + L) 1 0 s.lead.length), (90, .d (.int .i64 (s.lead.length : Int))), (91, .d (.int .i64 (s.lead.length : Int))), (92, .d (.bool false))] ∧ μ = ((49, ⟨0, false, .ref (1099511627776 + T) 1 0 R :: cs⟩) :: (75, ⟨0, false, el (rw' C (solX C s))⟩) :: H) := by
  have hlen := hi0.len
  refine loop_n s.lead.length (fun i e μ => e = [(7, .d (.int .i64 (C : Int))), (12, .ptr 49 0), (14, .own 75 3 0 C), (89, .own (1099511627776 + L) 1 0 s.lead.length), (90, .d (.int .i64 (s.lead.length : Int))), (91, .d (.int .i64 (i : Int)))] ∧ μ = ((49, ⟨0, false, .ref (1099511627776 + T) 1 0 R :: cs⟩) :: (75, ⟨0, false, el (rw' C (solI C s i))⟩) :: H)) ?_ ?_ ⟨rfl, rfl⟩
  · rintro i e μ hi ⟨rfl, rfl⟩
    have hiR : i < R := by omega
    have hc : C < C + 1 := by omega
    have ht := h.tab
    have hrow := h.row i hiR
    have hget := refs_get (ids := ids) (C := C + 1) hiR
    have hix := rw_ix (s.f i) hc
    have hln2 := rw_len (C + 1) (s.f i)
    have hlt : C < (rw' (C + 1) (s.f i)).length := by omega
    have hlr := hl.row hln
    have hni := nats_ix hi
    have hnl := nats_len s.lead
    have hli := hi0.lt i hi
    have st := solI_step hi0 hi
    have hl3 := rw_len C (solI C s i)
    refine .inl ⟨_, _, ?_, rfl, rfl⟩
    generalize rw' C (solI C s (i + 1)) = g' at *
    generalize rw' C (solI C s i) = g at *
    generalize can (s.f i C) = q at *
    generalize rw' (C + 1) (s.f i) = g2 at *
    generalize ix s.lead i = li at *
    have hin : i < (nats s.lead).length := by omega
    generalize nats s.lead = ns at *
    simp (disch := omega) [-vIA_o, solve_Solve.b6, hi, ht, hrow, hget, hix, hiR, hlr, hni, st, hl3]
  · rintro e μ ⟨rfl, rfl⟩
    exact ⟨.exit 6, _, _, by simp [solve_Solve.b6] <;> first | rfl | exact ⟨rfl, rfl⟩, by simp, rfl, rfl, rfl⟩
theorem solve_b6n (C : Nat) (μ : Mem) : EX ip nv (.code (.loop [] [] solve_Solve.b6) [(7, .d (.int .i64 (C : Int))), (12, .ptr 49 0), (14, .own 75 3 0 C), (89, .d (.raw (.slice none 0 0))), (90, .d (.int .i64 0)), (91, .d (.int .i64 0))] μ) =
    some (.st (.exit 6) [(7, .d (.int .i64 (C : Int))), (12, .ptr 49 0), (14, .own 75 3 0 C), (89, .d (.raw (.slice none 0 0))), (90, .d (.int .i64 0)), (91, .d (.int .i64 0)), (92, .d (.bool false))] μ) := by
  rw [R_loop]
  simp [solve_Solve.b6]
/-- The table that is reduced, on the heap. -/
theorem solve_wide_ht {a : List (List RQ)} {b : List RQ} (hr : rectB a = true) (hbl : b.length = a.length) {H : Mem} {n : Nat} {ids : Nat → Nat} (h : HG H n a.length ids (wideT a (b.map fun x => [x]))) : HT H n a.length ids a.length (colsN a + 1) (solF a b) := by
  rw [wideT_tbl hr (m := 1) (fun i hi => ⟨by simp; omega, by rw [right_ix (by omega)]; rfl⟩)] at h
  refine h.ht.congr fun i k hi hk => ?_
  unfold solF besF
  by_cases e : k < colsN a
  · rw [if_pos e, if_pos e]
  · rw [if_neg e, if_neg e]
    have : k - colsN a = 0 := by omega
    rw [this]
    unfold tf
    rw [right_ix (by omega)]
    rfl
theorem solve_ev (hz : TzOk nv) (a : List (List RQ)) (b : List RQ) {k : Nat} (ha : ∀ r ∈ a, ∀ x ∈ r, x.ok k) (hb : ∀ x ∈ b, x.ok k) (hk0 : 1 ≤ k) (hk1 : 5 * (5 ^ colsN a * k) ≤ 1073741824) (hl : a.length ≤ 10000) (hr : rectB a = true) (hc : colsN a ≤ 10000) (hbl : b.length = a.length) :
    EX ip nv (.call F.solve_Solve [.d (.sl 1 (el a)), .d (.sl 3 (el b))] []) = some (.ret (.tp [.d (.sl 3 (el (if (∀ i, i < a.length → (solS a b).lead.length ≤ i → (solS a b).f i (colsN a) = 0) then rw' (colsN a) (solX (colsN a) (solS a b)) else []))), .d (.int .i64 (if (∀ i, i < a.length → (solS a b).lead.length ≤ i → (solS a b).f i (colsN a) = 0) then 0 else 17))]) []) := by
  rw [S_call solve_Solve.ip rfl]
  have sz := size_ev (nv := nv) a (by omega)
  unfold sizeV at sz
  rw [if_pos hr] at sz
  have hp5 : 1 ≤ 5 ^ colsN a := Nat.pow_pos (by decide)
  have hbb : k ≤ 5 ^ colsN a * k := Nat.le_mul_of_pos_left k hp5
  obtain ⟨_, _, _, l0, -, rfl, rfl, rfl⟩ := solve_b0 (nv := nv) b b (.sl 1 (el a)) a.length (colsN a) (by omega)
  obtain ⟨H, n, ids, wd, hH⟩ := wide_ev (nv := nv) hz a (b.map fun x => [x]) ha (fun r hr' => by
    obtain ⟨x, hx, rfl⟩ := List.mem_map.1 hr'
    intro y hy
    rw [List.mem_singleton.1 hy]; exact hb x hx) (by omega) (by omega) (by simp; omega) (by simp; omega) (fun r hr' => by
    obtain ⟨i, hi, rfl⟩ := List.getElem_of_mem hr'
    rw [← ix_get hi, rect_row hr hi]; omega) (fun r hr' => by
    obtain ⟨x, hx, rfl⟩ := List.mem_map.1 hr'
    simp)
  have hT := solve_wide_ht hr hbl hH
  have hsb := sol_b ha hb hk0 hr hbl
  obtain ⟨H', n', ids', L, rn, h1, h2⟩ := run_ev (nv := nv) hz (Nat.le_succ (colsN a)) hsb hk0 hk1 (by omega) (by omega) (.bool false) (.raw (.slice none 0 0)) (.raw (.slice none 0 0)) hT
  obtain ⟨fB, _⟩ := run_b hsb hk0 (colsN a) (Nat.le_succ _)
  have ht := hT.tab
  have ht' := h1.tab
  have hpn : hpart [] = [] := rfl
  have hnn : npart [] = [] := rfl
  have hcr : ∀ c k o n, (D.ref c k o n).cells = [.ref c k o n] := fun _ _ _ _ => rfl
  have hinv := run_inv a.length (solF a b) (colsN a)
  have hlen := hinv.len
  unfold redC at rn
  unfold solS
  generalize runR a.length (solF a b) (colsN a) = s at *
  have hrl : (b.map fun x => [x]).length = a.length := by simp [hbl]
  have hbi : (b.length : Int) = (a.length : Int) := by omega
  obtain ⟨_, _, _, l2, -, hz2⟩ := solve_b2 (nv := nv) hz fB (by omega) (by omega) (by omega) hlen (.int .i64 (colsN a : Int) :: ldD L s.lead :: .bool s.minus :: (can s.det).c) h1
  obtain ⟨_, _, _, l4, -, rfl, rfl, rfl⟩ := solve_b4 (nv := nv) (colsN a) (by omega) ⟨0, false, .ref (1099511627776 + a.length) 1 0 a.length :: .int .i64 (colsN a : Int) :: ldD L s.lead :: .bool s.minus :: (can s.det).c⟩ h1.hp
  rw [hbl] at l0
  generalize (b.map fun x => [x]) = rt at *
  rcases hz2 with ⟨rfl, hex, rfl, rfl⟩ | ⟨rfl, hall, rfl, rfl⟩
  · have hno : ¬ (∀ i, i < a.length → s.lead.length ≤ i → s.f i (colsN a) = 0) := by
      obtain ⟨i, h1, h2, h3⟩ := hex
      exact fun h => h3 (h i h2 h1)
    rw [if_neg hno, if_neg hno]
    by_cases hln : s.lead = []
    · rw [hln, ldD_nil] at rn l2
      have z0 : ((([] : List Nat).length : Nat) : Int) = 0 := rfl
      rw [z0] at l2
      simp (disch := omega) [-vIA_o, solve_Solve, sz, l0, wd, hpn, hnn, hT.hp.hpart, hT.hp.npart, hT.hp.aget, hT.hp.aput, hT.hp.adel, ht, hcr, rn, hpart_cons, npart_cons, ht', h1.hp.hpart, h1.hp.npart, h1.hp.aget, h1.hp.adel, h1.hp.aput, hrl, hbl, hbi, l2]
    · rw [ldD_cons hln] at rn l2
      have lr := h2.row hln
      simp (disch := omega) [-vIA_o, solve_Solve, sz, l0, wd, hpn, hnn, hT.hp.hpart, hT.hp.npart, hT.hp.aget, hT.hp.aput, hT.hp.adel, ht, hcr, rn, hpart_cons, npart_cons, ht', h1.hp.hpart, h1.hp.npart, h1.hp.aget, h1.hp.adel, h1.hp.aput, hrl, hbl, hbi, l2, lr]
  · have hyes : (∀ i, i < a.length → s.lead.length ≤ i → s.f i (colsN a) = 0) := fun i h1 h2 => hall i h2 h1
    rw [if_pos hyes, if_pos hyes]
    have hmk : 56 * colsN a ≤ 281474976710656 := by omega
    have hrep : el (List.replicate (colsN a) (⟨false, [], []⟩ : RQ)) = el (rq' (colsN a) (zr 0)) := by rw [rep_rq]; rfl
    by_cases hln : s.lead = []
    · rw [hln, ldD_nil] at rn l2
      rw [hln, ldD_nil] at l4
      have z0 : ((([] : List Nat).length : Nat) : Int) = 0 := rfl
      rw [z0] at l2
      have hx : rw' (colsN a) (solX (colsN a) s) = rw' (colsN a) (fun _ => 0) := rw_congr fun k _ => by unfold solX; rw [hln]; rfl
      rw [hx]
      have l6 := solve_b6n (nv := nv) (colsN a)
      have dd := asDD_row (μ := ((75, (⟨0, false, el (rw' (colsN a) (fun _ => 0))⟩ : Blk)) :: H')) (b := 75) (k0 := 3) (n := colsN a) (l := rw' (colsN a) (fun _ => 0)) rfl (by simp) (un_rqs _ _)
      generalize rw' (colsN a) (fun _ => 0) = g at *
      simp (disch := omega) [-vIA_o, solve_Solve, sz, l0, wd, hpn, hnn, hT.hp.hpart, hT.hp.npart, hT.hp.aget, hT.hp.aput, hT.hp.adel, ht, hcr, rn, hpart_cons, npart_cons, ht', h1.hp.hpart, h1.hp.npart, h1.hp.aget, h1.hp.adel, h1.hp.aput, hrl, hbl, hbi, l2, l4, l6, hmk, hrep, dd]
    · rw [ldD_cons hln] at rn l2 l4
      have lr := h2.row hln
      obtain ⟨_, _, _, l6, -, rfl, rfl, rfl⟩ := solve_b6 (nv := nv) hinv (by omega) (by omega) (.int .i64 (colsN a : Int) :: .ref (1099511627776 + L) 1 0 s.lead.length :: .bool s.minus :: (can s.det).c) h1 h2 hln
      have dd := asDD_row (μ := ((75, (⟨0, false, el (rw' (colsN a) (solX (colsN a) s))⟩ : Blk)) :: H')) (b := 75) (k0 := 3) (n := colsN a) (l := rw' (colsN a) (solX (colsN a) s)) rfl (by simp) (un_rqs _ _)
      generalize rw' (colsN a) (fun _ => 0) = g0 at *
      generalize rw' (colsN a) (solX (colsN a) s) = g at *
      simp (disch := omega) [-vIA_o, solve_Solve, sz, l0, wd, hpn, hnn, hT.hp.hpart, hT.hp.npart, hT.hp.aget, hT.hp.aput, hT.hp.adel, ht, hcr, rn, hpart_cons, npart_cons, ht', h1.hp.hpart, h1.hp.npart, h1.hp.aget, h1.hp.adel, h1.hp.aput, hrl, hbl, hbi, l2, l4, l6, hmk, hrep, dd, lr]
theorem solve_bad (a : List (List RQ)) (b : List RQ) (hl : a.length ≤ 10000) (h : rectB a = false ∨ (rectB a = true ∧ b.length ≠ a.length)) :
    EX ip nv (.call F.solve_Solve [.d (.sl 1 (el a)), .d (.sl 3 (el b))] []) = some (.ret (.tp [.d (.sl 3 []), .d (.int .i64 14)]) []) := by
  rw [S_call solve_Solve.ip rfl]
  have sz := size_ev (nv := nv) a (by omega)
  unfold sizeV at sz
  rcases h with h | ⟨h, hb⟩
  · rw [if_neg (by simp [h])] at sz
    simp (disch := omega) [solve_Solve, sz]
  · rw [if_pos h] at sz
    have hbi : ¬ (a.length : Int) = (b.length : Int) := by omega
    have hbn : ¬ a.length = b.length := fun e => hb e.symm
    simp (disch := omega) [solve_Solve, sz, hbi, hbn]
end
end Go.Proofs.YtbghnfhfekfenaaDoor
