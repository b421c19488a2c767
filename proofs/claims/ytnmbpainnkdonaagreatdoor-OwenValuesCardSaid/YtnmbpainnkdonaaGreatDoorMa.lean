/- orders.Right: the kit's walk through its map; what a call of it comes to. -/
import Derived.Test.YtnmbpainnkdonaaGreatDoorKt
import Derived.Test.YtnmbpainnkdonaaGreatDoorRd
import Derived.WalkKit
import Derived.Maps.OwnOps
import Derived.Maps.OwnSet
import Derived.Maps.Views
set_option linter.unusedSimpArgs false
set_option linter.unusedVariables false
namespace Go.Proofs.YtnmbpainnkdonaaGreatDoor
open Go Go.Proofs.R Go.RowKit Go.Maps
/-- Is a list an order of n players, up to a place? -/
def okAt (n : Int) (l : List Int) (i : Nat) : Bool := decide (0 ≤ ix l i) && decide (ix l i < n) && !(l.take i).contains (ix l i)
def okP (n : Int) (l : List Int) (j : Nat) : Bool := (List.range j).all (okAt n l)
def rightO (l : List Int) (n : Int) : Bool := decide (0 ≤ n) && decide ((l.length : Int) = n) && okP n l l.length
theorem okP_succ (n : Int) (l : List Int) (j : Nat) : okP n l (j + 1) = (okP n l j && okAt n l j) := by simp [okP, List.range_succ]
theorem okP_mono {n : Int} {l : List Int} {j k : Nat} (h : j ≤ k) (hk : okP n l k = true) : okP n l j = true := by
  simp only [okP, List.all_eq_true, List.mem_range] at hk ⊢
  exact fun i hi => hk i (by omega)
theorem lawI : Keyed Tryz.prog 3 := int_keyed Tryz.underlying3
theorem zeroI (w : World) : (zeroValue 3).run Tryz.prog w = .ok (.int .i64 0) w := by kernel_rfl
/-- What a map of numbers says: 1 at some keys, 0 at the others. -/
def Says (D : DataW Unit) (f : Int → Bool) : Prop := ∀ k : Int, (Lit.int .i64 k).wf = true → D.atKey (.int .i64 k) (.lit (.int .i64 0)) = .lit (.int .i64 (if f k then 1 else 0))
theorem Says.put {D : DataW Unit} {f g : Int → Bool} (h : Says D f) (hD : IsMap D) {x : Int} (hx : WideAt.IsKeyLit (.int .i64 x)) (hg : ∀ k, g k = (f k || decide (k = x))) : Says (D.put (.int .i64 x) (.lit (.int .i64 1))) g := by
  intro k hk
  by_cases e : k = x
  · subst e
    rw [atKey_put_same hD hx, hg]; simp
  · rw [atKey_put_other (by intro h; cases h; exact e rfl), h k hk, hg]; simp [e]
theorem Says.del {D : DataW Unit} {f g : Int → Bool} (h : Says D f) {x : Int} (hg : ∀ k, g k = (f k && !decide (k = x))) : Says (D.del (.int .i64 x)) g := by
  intro k hk
  by_cases e : k = x
  · subst e
    rw [atKey_del_same, hg]; simp
  · rw [atKey_del_other (by intro h; cases h; exact e rfl), h k hk, hg]; simp [e]
theorem wf_i {x : Int} (h : -9223372036854775808 ≤ x) (h' : x ≤ 9223372036854775807) : (Lit.int .i64 x).wf = true := by
  simp [Lit.wf, IntKind.min, IntKind.max, IntKind.signed, IntKind.bits]
  omega
set_option maxRecDepth 100000 in
set_option maxHeartbeats 1600000 in
theorem right_walk (a : Option Addr) (cap : Nat) (n : Int) (l : List Int) (w : World) (hl : l.length ≤ 1000) (hn : -9223372036854775808 ≤ n ∧ n ≤ 9223372036854775807) (hx : ∀ x ∈ l, -9223372036854775808 ≤ x ∧ x ≤ 9223372036854775807)
    (hc : l = [] ∨ ∃ b off, a = some ⟨b, off, none⟩ ∧ b < w.heap.size ∧ ∀ j, j < l.length → w.cell? ⟨b, off + j, none⟩ = some (.int .i64 (ix l j))) :
    Calls Tryz.prog F.orders_Right #[.slice a l.length cap, .int .i64 n] w fun e w' => e = .returned (.bool (rightO l n)) ∧ Below w.heap.size w w' := by
  unfold F.orders_Right
  have hmm := @run_makeMap Tryz.prog
  by_cases h0 : n < 0
  · go_enter Tryz.func110, Tryz.ntmps110
    go_wp2
    go_ret
    refine ⟨?_, Below.refl _ _⟩
    have : decide (0 ≤ n) = false := by simp; omega
    simp [rightO, this]
  by_cases h1 : (l.length : Int) = n
  · obtain ⟨N, rfl⟩ : ∃ N : Nat, n = (N : Int) := ⟨n.toNat, by omega⟩
    have hN : l.length = N := by omega
    have hN1 : N ≤ 1000 := by omega
    have e0 : (0 : Int) ≤ (N : Int) := by omega
    have hgoal : rightO l (N : Int) = okP (N : Int) l l.length := by simp [rightO, h1]
    rw [hgoal]
    rcases hc with rfl | ⟨b, off, rfl, hb, hcell⟩
    · simp only [List.length_nil] at hN
      subst hN
      go_enter Tryz.func110, Tryz.ntmps110
      go_wp2
      refine wp_loop_rounds 1 ?_
      rw [rounds_succ]
      go_wp2
      refine wp_loop_rounds 1 ?_
      rw [rounds_succ]
      go_wp2
      go_ret
      exact ⟨rfl, (Below.refl _ _).alloc (Nat.le_refl _) _⟩
    go_enter Tryz.func110, Tryz.ntmps110
    go_wp2
    go_loopw [19] (fun i wr => ∃ (k : Nat) (D : DataW Unit), k ≤ N ∧ i = .int .i64 k ∧ wr.ownsMap Tryz.prog 3 (plainElem Tryz.prog 3) w.heap.size k D ∧ Says D (fun x => decide (0 ≤ x) && decide (x < (k : Int))) ∧ Below w.heap.size w wr)
      (fun i _ => N - (intOf i).toNat)
    case atStart =>
      refine ⟨0, .map [], Nat.zero_le _, rfl, World.ownsMap_made _ _ _ _, ?_, (Below.refl _ _).alloc (Nat.le_refl _) _⟩
      intro k hk
      have : (decide (0 ≤ k) && decide (k < ((0 : Nat) : Int))) = false := by simp
      simp only [this]; rfl
    case round =>
      obtain ⟨k, D, hk, rfl, hown, hs, hnx⟩ := hrel
      have hkey : keyOf Tryz.prog 3 (.int .i64 (k : Int)) = some (.int .i64 (k : Int)) := keyOf_int_mk Tryz.underlying3 (wf_i (by omega) (by omega))
      go_wp2_with (first
        | (at_mapUpdate; refine wpList_mapUpdate_own _ rfl _ _ _ 140 rfl 3 3 lawI Tryz.underlying140 _ w.heap.size k _ rfl hown (by unfold maxLen; omega) _ _ _ rfl rfl hkey _ [] (plainElem_int Tryz.underlying3 (wf_i (by omega) (by omega))) ?_; intro w1 hown1 hgrow1)
        | go_in)
      · have hlt : k < N := by assumption
        go_roundw
        case rel => exact ⟨k + 1, _, by omega, by go_num, hown1, hs.put hown.isMap (lawI.key hkey) (fun x => by
          have : decide (x < ((k + 1 : Nat) : Int)) = (decide (x < (k : Int)) || decide (x = (k : Int))) := by
            rw [Bool.eq_iff_iff]; simp; omega
          rw [this]
          by_cases c : x = (k : Int)
          · subst c; simp
          · simp [c]), hnx.grown hgrow1 hnx.size (fun j hj => by cases hj; exact Nat.le_refl _)⟩
        case measure => simp [intOf]; omega
      · obtain rfl : k = N := by omega
        rw [show decide (k < k) = false from decide_eq_false (Nat.lt_irrefl k)]
        go_loopw [27] (fun i wr => ∃ (j : Nat) (D : DataW Unit), j ≤ l.length ∧ i = .int .i64 j ∧ wr.ownsMap Tryz.prog 3 (plainElem Tryz.prog 3) w.heap.size k D ∧ Says D (fun x => (decide (0 ≤ x) && decide (x < (k : Int))) && !(l.take j).contains x) ∧ okP (k : Int) l j = true ∧ Below w.heap.size w wr)
          (fun i _ => l.length - (intOf i).toNat)
        case atStart => exact ⟨0, D, Nat.zero_le _, rfl, hown, by simpa using hs, rfl, hnx⟩
        case round =>
          obtain ⟨j, D2, hj, rfl, hown2, hs2, hok, hnx2⟩ := hrel
          have hcx : j < l.length → _ := fun h => (hnx2.cell (by exact hb)).trans (hcell j h)
          have hxj : j < l.length → -9223372036854775808 ≤ ix l j ∧ ix l j ≤ 9223372036854775807 := fun h => hx _ (by
            have : ix l j = l[j] := by simp [ix, h]
            rw [this]; exact List.getElem_mem h)
          by_cases hjl : j < l.length
          · have c1 := hcx hjl
            obtain ⟨x0, x1⟩ := hxj hjl
            have hkey : keyOf Tryz.prog 3 (.int .i64 (ix l j)) = some (.int .i64 (ix l j)) := keyOf_int_mk Tryz.underlying3 (wf_i x0 x1)
            have hsx : D2.atKey (.int .i64 (ix l j)) (.lit (.int .i64 0)) = .lit (.int .i64 (if okAt (k : Int) l j = true then 1 else 0)) := hs2 (ix l j) (wf_i x0 x1)
            have hsuc := okP_succ (k : Int) l j
            rw [hok, Bool.true_and] at hsuc
            have htake : l.take (j + 1) = l.take j ++ [ix l j] := by rw [List.take_add_one, ix_in hjl]; rfl
            have hjk : (j : Int) < (k : Int) := by omega
            generalize okAt (k : Int) l j = ob at *
            generalize ix l j = x at *
            clear hcx hxj
            go_wp2_with (first
              | (at_lookup; refine wpList_lookup_own_int _ rfl _ _ 140 rfl 3 3 .i64 lawI Tryz.underlying140 Tryz.underlying3 (zeroI _) w.heap.size k _ rfl hown2 _ _ rfl hkey ?_; intro c hatc hwc)
              | (at_delete; refine wpList_delete_own _ rfl _ _ 140 3 rfl 3 lawI Tryz.underlying140 _ w.heap.size k D2 rfl hown2 _ _ rfl hkey ?_; intro w1 hown1 hturn1)
              | go_in)
            · have hc0 : (c != 1) = true := by assumption
              have hc1 : ¬ c = 1 := by simpa using hc0
              have hob : ob = false := by
                rw [hsx] at hatc
                cases ob with
                | false => rfl
                | true => simp at hatc; exact absurd hatc.symm hc1
              subst hob
              go_ret
              refine ⟨?_, hnx2⟩
              have : okP (k : Int) l l.length = false := by
                cases h : okP (k : Int) l l.length with
                | false => rfl
                | true => rw [okP_mono (j := j + 1) (by omega) h] at hsuc; cases hsuc
              rw [this]; rfl
            · have hc0 : (c != 1) = false := by assumption
              have hc1 : c = 1 := by simpa using hc0
              have hob : ob = true := by
                rw [hsx] at hatc
                cases ob with
                | true => rfl
                | false => simp at hatc; omega
              subst hob
              go_roundw
              case rel => exact ⟨j + 1, _, by omega, by go_num, hown1, hs2.del (fun y => by
                rw [htake]
                by_cases e : y = x
                · subst e; simp
                · simp [e]), hsuc, hnx2.grown hturn1.grown hnx2.size (fun j hj => by cases hj; exact Nat.le_refl _)⟩
              case measure => simp [intOf]; omega
          · have : j = l.length := by omega
            subst this
            rw [hN] at hok
            go_wp2
            go_ret
            exact ⟨by rw [hN, hok]; rfl, hnx2⟩
  · go_enter Tryz.func110, Tryz.ntmps110
    go_wp2
    go_ret
    refine ⟨?_, Below.refl _ _⟩
    simp [rightO, h1]
theorem el_int_get {l : List Int} {j : Nat} (h : j < l.length) : (el l)[j]? = some (.int .i64 (ix l j)) := by
  have := view_el h
  rw [view_f, Nat.mul_one] at this
  exact this
/-- A number of 64 bits. -/
def In64 (x : Int) : Prop := -9223372036854775808 ≤ x ∧ x ≤ 9223372036854775807
instance (x : Int) : Decidable (In64 x) := inferInstanceAs (Decidable (_ ∧ _))
theorem right_ok {T : List (Nat × Obj)} (l : List Int) (n : Int) (hl : l.length ≤ 1000) (hn : In64 n) (hx : ∀ x ∈ l, In64 x) :
    CallOK Tryz.prog T F.orders_Right [.d (.sl 1 (el l)), .d (.int .i64 n)] [] (.d (.bool (rightO l n))) [] := by
  intro O0 m ys w hargs _ hblks _ _ hbase
  obtain ⟨y0, t0, rfl, hy0, y1, t1, rfl, hy1, rfl⟩ := hargs
  obtain rfl : y1 = .int .i64 n := hy1
  have hy : rd w (Ow O0 m []) (.sl 1 (el l)) y0 := hy0
  simp only [rd] at hy
  obtain ⟨a, len, cap, rfl, -, -, hlen, hr⟩ := hy
  have e : len = l.length := by simpa using hlen
  subst e
  refine (right_walk a cap n l w hl hn hx ?_).mono ?_
  · rcases hr with hr | ⟨b, off, rfl, hr⟩
    · left
      have := congrArg List.length hr
      simp at this
      exact this
    · by_cases h0 : l.length = 0
      · exact .inl (List.length_eq_zero_iff.1 h0)
      · have hat := At.of_rdC hr
        have hcell : ∀ j, j < l.length → w.cell? ⟨b, off + j, none⟩ = some (.int .i64 (ix l j)) := by
          intro j hj
          obtain ⟨-, y, h1, h2⟩ := hat j _ (el_int_get hj)
          have : y = .int .i64 (ix l j) := h2
          rw [h1, this]
        exact .inr ⟨b, off, rfl, cell_lt (hcell 0 (by omega)), hcell⟩
  · rintro e w' ⟨rfl, hB⟩
    have hF : Fr (XOf m []) w w' := ⟨hB.os, hB.tape, hB.output, hB.size, fun k hk _ => hB.block k hk⟩
    exact ⟨_, m, rfl, rfl, fun b _ => rfl, ⟨(fun b B h => by cases h), (fun b b' B B' g s s' h => by cases h)⟩, fun b hb => by simp [V.says, V.says1] at hb, hF⟩
/-- Numbers out of cells. -/
def ints? : List D → Option (List Int)
  | [] => some []
  | .int .i64 x :: r => (ints? r).map fun l => x :: l
  | _ :: _ => none
theorem ints?_el : ∀ l : List Int, ints? (el l) = some l
  | [] => rfl
  | x :: r => by rw [el_cons, d_int]; simp only [D.cells, List.cons_append, List.nil_append, ints?, ints?_el r, Option.map_some]
theorem ints?_inv : ∀ {c : List D} {l : List Int}, ints? c = some l → c = el l
  | [], l, h => by cases h; rfl
  | d :: r, l, h => by
    unfold ints? at h
    split at h
    · rename_i e; cases e
    · rename_i x r' e
      cases e
      obtain ⟨l', h1, rfl⟩ := Option.map_eq_some_iff.1 h
      rw [ints?_inv h1, el_cons]; rfl
    · cases h
/-- What natives answer, orders.Right too. -/
def nvR (nv : R.Nv) : R.Nv := fun f args μ =>
  if f = F.orders_Right then (match args, μ with
    | [.d (.sl 1 c), .d (.int .i64 n)], [] => match ints? c with
      | some l => if l.length ≤ 1000 ∧ In64 n ∧ ∀ x ∈ l, In64 x then some (.d (.bool (rightO l n)), []) else none
      | none => none
    | _, _ => none)
  else nv f args μ
theorem nvR_right {nv : R.Nv} (l : List Int) (n : Int) (hl : l.length ≤ 1000) (hn : In64 n) (hx : ∀ x ∈ l, In64 x) : nvR nv F.orders_Right [.d (.sl 1 (el l)), .d (.int .i64 n)] [] = some (.d (.bool (rightO l n)), []) := by
  simp only [nvR, if_true, ints?_el]
  rw [if_pos ⟨hl, hn, hx⟩]
theorem nvR_other {nv : R.Nv} {f : Nat} (h : f ≠ F.orders_Right) (args : List V) (μ : Mem) : nvR nv f args μ = nv f args μ := by
  simp only [nvR, if_neg h]
theorem tzOkR {nv : R.Nv} (h : TzOk nv) : TzOk (nvR nv) := by
  intro x h0 h1
  obtain ⟨z, a, b, c, d⟩ := h x h0 h1
  exact ⟨z, a, b, c, by rw [nvR_other (by decide)]; exact d⟩
theorem prog_okR {T : List (Nat × Obj)} {nv : R.Nv} (h : ProgOK Tryz.prog T ip nv) : ProgOK Tryz.prog T ip (nvR nv) where
  code := h.code
  nat f args μ r μr hip hh := by
    unfold nvR at hh
    split at hh
    · rename_i hf
      subst hf
      split at hh
      · split at hh
        · rename_i hc
          split at hh
          · rename_i hcond
            cases hh
            rw [ints?_inv hc]
            exact right_ok _ _ hcond.1 hcond.2.1 hcond.2.2
          · cases hh
        · cases hh
      · cases hh
    · exact h.nat f args μ r μr hip hh
theorem prog_okR0 {o : Obj} (ho : TabObj o) : ProgOK Tryz.prog [(0, o)] ip (nvR nv) := prog_okR (prog_ok ho)
theorem oright_ev {nv : R.Nv} (l : List Int) (n : Int) (hl : l.length ≤ 1000) (hn : In64 n) (hx : ∀ x ∈ l, In64 x) : EX ip (nvR nv) (.call F.orders_Right [.d (.sl 1 (el l)), .d (.int .i64 n)] []) = some (.ret (.d (.bool (rightO l n))) []) := by
  rw [EX_nat (by rfl), nvR_right l n hl hn hx]; rfl
end Go.Proofs.YtnmbpainnkdonaaGreatDoor
