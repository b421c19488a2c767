/- The interpreter of the road R, part Rq: its data, its steps, and that it is right. -/
import Derived.Test.YtgigaimaaijalaaDoorRa
set_option linter.unusedVariables false
set_option linter.unusedSimpArgs false
/- Calls. -/
namespace Go.Proofs.R
open Go Go.RowKit
set_option linter.unusedSimpArgs false

/-- The model's blocks behind some blocks. -/
def XOf (m : Nat → Option (Nat × Nat)) (μ : Mem) : Nat → Prop := fun g => ∃ b B s, aget μ b = some B ∧ m b = some (g, s)

/-- Blocks that stand in the world, and that nobody writes. -/
def Base (T : List (Nat × Obj)) (w : World) (X : Nat → Prop) : Prop := ∀ p, p ∈ T → w.heap[p.1]? = some p.2 ∧ ¬ X p.1

theorem Base.frame {T : List (Nat × Obj)} {w0 w : World} {X Y : Nat → Prop} (h : Base T w0 X) (hF : Fr X w0 w) (hY : ∀ g, g < w0.heap.size → Y g → X g) : Base T w Y := fun p hp => by
  obtain ⟨h1, h2⟩ := h p hp
  have hlt : p.1 < w0.heap.size := by
    rw [Array.getElem?_eq_some_iff] at h1
    exact h1.1
  exact ⟨(hF.block _ hlt h2).trans h1, fun hy => h2 (hY _ hlt hy)⟩

/-- What a call of the model's function comes to, for arguments and blocks handed over. -/
def CallOK (P : Program) (T : List (Nat × Obj)) (f : Nat) (args : List V) (μ : Mem) (r : V) (μr : Mem) : Prop :=
  ∀ (O0 : Outs) (m : Nat → Option (Nat × Nat)) (ys : List Value) (w : World),
    rvL m w (Ow O0 m μ) args ys → (∀ b B, aget μ b = some B → 1099511627775 ≤ b ∨ b < args.length ∧ B.fix = true) → Blks w.heap.size (XOf m μ) (Ow O0 m μ) m μ w →
    (∀ g i, O0 g i → g < w.heap.size ∧ ¬ XOf m μ g) → (∀ v, v ∈ args → ∀ b, v.says b = true → Said μ b) → Base T w (XOf m μ) → Heap O0 m m 0 μ →
    Calls P f ⟨ys⟩ w fun e w' => ∃ y m', e = .returned y ∧ rv m' w' (Ow O0 m' μr) r y ∧ (∀ b, b < args.length → m' b = m b) ∧ Blks w.heap.size (XOf m μ) (Ow O0 m' μr) m' μr w' ∧
      (∀ b, r.says b = true → Said μr b) ∧ Fr (XOf m μ) w w' ∧ Heap O0 m m' 0 μr

section
variable {P : Program} {w0 w w' : World} {X : Nat → Prop} {O0 : Outs} {m0 m : Nat → Option (Nat × Nat)} {np nt : Nat} {e : Env} {μ : Mem} {a : Act}
variable {ty : TypeId} {pos : String} {after : Array Edge} {gd : Option (Nat × Bool)} {d : Nat}

theorem Fr.keep {Y : Nat → Prop} {O : Cells} (h : Fr Y w w') (hY : ∀ g i, Y g → O g i) : Keep w O w' O := by
  refine ⟨?_, fun _ => RS.le_refl _⟩
  intro b i y hc hO
  refine ⟨?_, hO⟩
  have hb := h.block b (cell_lt hc) fun hy => hO (hY b i hy)
  simp only [World.cell?] at hc ⊢
  rw [hb]
  exact hc

theorem Rel.world (R : Rel w0 X O0 m0 np nt m e μ a w) (h : Fr (fun _ => False) w w') : Rel w0 X O0 m0 np nt m e μ a w' := by
  have hK : Keep w (Ow O0 m μ) w' (Ow O0 m μ) := h.keep fun _ _ h => h.elim
  refine ⟨R.size, R.defers, R.srt, fun t v h => ?_, R.says, ⟨fun b B hB g s hm => ?_, R.blks.inj⟩, R.frame.trans h (fun _ _ h => h) (fun _ _ h => h.elim), R.out, R.low, R.stay, R.heap⟩
  · obtain ⟨y, h1, h2⟩ := R.env t v h
    exact ⟨y, h1, rv_keep hK (fun _ _ => rfl) h2⟩
  · obtain ⟨h1, h2, h3, arr, T, h4, h5, h6⟩ := R.blks.blk b B hB g s hm
    exact ⟨h1, Nat.lt_of_lt_of_le h2 h.size, h3, arr, T, by rw [h.block g h2 fun h => h.elim]; exact h4, h5, rdB_keep hK h6⟩

theorem run_call_op {f : Nat} {fn : Func} {args : Array Operand} {argTypes : Array TypeId} {ρ : Operand → Value} {dst : Option Tmp} (hρ : ρ (.func f) = .func (.func f) #[] #[]) (hf : P.funcs[f]? = some fn) (hn : (fn.name == "runtime.NumGoroutine") = false) (hb : fn.body.isNone = false) :
    (execOp ρ ⟨dst, .call { callee := .value (.func f), args := args, argTypes := argTypes }, ty, pos, after, gd⟩).run P w = .ok (.enter f (args.map ρ)) w := by
  simp only [execOp, resolve, hρ, Deferred.ofValue, Sem.run_bind, Sem.run_pure, Result.andThen_ok, invoke]
  have hn' : ¬ fn.name = "runtime.NumGoroutine" := by simpa using hn
  have hb' : ¬ fn.body = none := by cases h : fn.body with
    | none => rw [h] at hb; cases hb
    | some c => simp
  simp [callFunc, go_sem, hf, hn', hb']

theorem cXs_eval (he : EnvOk m w (Ow O0 m μ) e a.eval) : ∀ {ts : List TypeId} {l : List Operand} {l' : List Go.Proofs.R.X} {vs : List V}, cXs P ts l = some l' → evs e l' = some vs → ∃ ys : List Value, l.map a.eval = ys ∧ ys.length = vs.length ∧ ∀ (i : Nat) (v : V), vs[i]? = some v → ∃ y, ys[i]? = some y ∧ rv m w (Ow O0 m μ) v y
  | ts, [], l', vs, hc, hv => by
    have : l' = [] := by cases ts <;> simpa [cXs, eq_comm] using hc
    subst this
    simp only [evs, Option.some.injEq] at hv
    subst hv
    exact ⟨[], rfl, rfl, by simp⟩
  | [], x :: xs, l', vs, hc, hv => by simp [cXs] at hc
  | t :: ts, x :: xs, l', vs, hc, hv => by
    simp only [cXs, Option.bind_eq_some_iff, Option.map_eq_some_iff] at hc
    obtain ⟨x', hx, r', hr, rfl⟩ := hc
    simp only [evs, Option.bind_eq_some_iff] at hv
    obtain ⟨v, hv, vs', hvs, h⟩ := hv
    cases h
    obtain ⟨ys, h1, h2, h3⟩ := cXs_eval he hr hvs
    refine ⟨a.eval x :: ys, by simp [h1], by simp [h2], fun i u hu => ?_⟩
    cases i with
    | zero => simp at hu; subst hu; exact ⟨_, rfl, ev_ok he hx hv⟩
    | succ i => simpa using h3 i u (by simpa using hu)

theorem toDs_rvL {O : Cells} (hμ : MemOk m w O μ) {m' : Nat → Option (Nat × Nat)} : ∀ {vs ds : List V} {ys : List Value}, toDs μ vs = some ds → ys.length = vs.length → (∀ (i : Nat) (v : V), vs[i]? = some v → ∃ y, ys[i]? = some y ∧ rv m w O v y) → rvL m' w O ds ys ∧ ∀ v, v ∈ ds → ∀ b, v.says b = false
  | [], ds, ys, h, hl, _ => by
    simp only [toDs, Option.some.injEq] at h
    subst h
    have : ys = [] := List.length_eq_zero_iff.1 (by simpa using hl)
    subst this
    exact ⟨by simp [rvL], by simp⟩
  | v :: r, ds, [], h, hl, _ => by simp at hl
  | v :: r, ds, y :: t, h, hl, H => by
    simp only [toDs, Option.bind_eq_some_iff] at h
    obtain ⟨x, hx, ds', hds, h⟩ := h
    cases h
    obtain ⟨h1, h2⟩ := toDs_rvL hμ (ys := t) (m' := m') hds (by simpa using hl) fun i u hu => by simpa using H (i + 1) u (by simpa using hu)
    obtain ⟨y', hy, hr⟩ := H 0 v (by simp)
    simp at hy
    subst hy
    refine ⟨?_, ?_⟩
    · simp only [rvL]; exact ⟨y, t, rfl, toD_rd hμ hr hx, h1⟩
    · intro u hu b
      rcases List.mem_cons.1 hu with rfl | hu
      · simp [V.says, V.says1]
      · exact h2 u hu b

/-- A result as data, whoever may write it: nobody does any more. -/
theorem asD_rd {O O' : Cells} {ν : Mem} {m' : Nat → Option (Nat × Nat)} {lo : Nat} {Y : Nat → Prop} (hB : Blks lo Y O m' ν w') (hO : ∀ g i, O' g i → O g i) (hr : ∀ c, (O.ref c).le (O'.ref c)) (hnew : ∀ g i, (lo ≤ g ∨ Y g) → ¬ O' g i) {v : V} {x : D} {y : Value} (h : rv m' w' O v y) (hd : asD ν v = some x) : rd w' O' x y := by
  have hK : Keep w' O w' O' := ⟨fun b i y hc hn => ⟨hc, fun h => hn (hO b i h)⟩, hr⟩
  unfold asD at hd
  split at hd
  · cases hd; exact rd_keep hK _ _ h
  · rename_i b k off n
    split at hd
    · rename_i B hBb
      split at hd
      · rename_i hle
        cases hd
        simp only [rv, rv1] at h
        obtain ⟨hk, h⟩ := h
        cases hm : m' b with
        | none =>
          simp only [hm] at h
          obtain ⟨rfl, rfl, rfl⟩ := h
          simp only [rd]
          exact ⟨none, 0, 0, rfl, hk, Nat.le_refl _, by simp, .inl (by simp)⟩
        | some p =>
          obtain ⟨gg, s⟩ := p
          simp only [hm] at h
          obtain ⟨o, c, rfl, h1, h2, h3⟩ := h
          obtain ⟨h4, h5, h6, arr, T, h7, h8, h9⟩ := hB.blk b B hBb gg s hm
          simp only [rd]
          refine ⟨some ⟨gg, o, none⟩, n, c, rfl, hk, h1, by simp; omega, ?_⟩
          rcases h2 with rfl | rfl
          · have : n = 0 := by omega
            subst this
            exact .inl (by simp)
          · refine .inr ⟨gg, o, rfl, ?_⟩
            refine At.rdC ?_ fun i hi => hnew gg _ h4
            have := ((At.of_rdB (rdB_keep hK h9) h7).drop o).take (n * k)
            rwa [Nat.zero_add] at this
      · cases hd
    · cases hd
  · cases hd

theorem asDs_rd {O O' : Cells} {ν : Mem} {m' m'' : Nat → Option (Nat × Nat)} {lo : Nat} {Y : Nat → Prop} (hB : Blks lo Y O m' ν w') (hO : ∀ g i, O' g i → O g i) (hr : ∀ c, (O.ref c).le (O'.ref c)) (hnew : ∀ g i, (lo ≤ g ∨ Y g) → ¬ O' g i) : ∀ {vs ds : List V} {ys : List Value}, rvL m' w' O vs ys → asDs ν vs = some ds → rvL m'' w' O' ds ys ∧ ∀ b, ds.any (V.says1 b) = false
  | [], ds, ys, h, hd => by
    simp only [asDs, Option.some.injEq] at hd
    subst hd
    simp only [rvL] at h ⊢
    exact ⟨h, by simp⟩
  | v :: r, ds, ys, h, hd => by
    simp only [asDs, Option.bind_eq_some_iff] at hd
    obtain ⟨x, hx, ds', hds, hd⟩ := hd
    cases hd
    simp only [rvL] at h ⊢
    obtain ⟨y, t, rfl, h1, h2⟩ := h
    obtain ⟨h3, h4⟩ := asDs_rd (m'' := m'') hB hO hr hnew h2 hds
    exact ⟨⟨y, t, rfl, asD_rd hB hO hr hnew (rv_of_rv1 h1) hx, h3⟩, fun b => by simp [V.says1, h4 b]⟩

theorem resD_rv {O O' : Cells} {ν : Mem} {m' m'' : Nat → Option (Nat × Nat)} {lo : Nat} {Y : Nat → Prop} (hB : Blks lo Y O m' ν w') (hO : ∀ g i, O' g i → O g i) (hr : ∀ c, (O.ref c).le (O'.ref c)) (hnew : ∀ g i, (lo ≤ g ∨ Y g) → ¬ O' g i) {v v' : V} {y : Value} (h : rv m' w' O v y) (hd : resD ν v = some v') : rv m'' w' O' v' y ∧ ∀ b, v'.says b = false := by
  unfold resD at hd
  split at hd
  · simp only [Option.map_eq_some_iff] at hd
    obtain ⟨ds, hds, rfl⟩ := hd
    simp only [rv] at h ⊢
    obtain ⟨ys, rfl, h⟩ := h
    obtain ⟨h1, h2⟩ := asDs_rd (m'' := m'') hB hO hr hnew h hds
    exact ⟨⟨ys, rfl, h1⟩, fun b => by simp only [V.says]; exact h2 b⟩
  · simp only [Option.map_eq_some_iff] at hd
    obtain ⟨x, hx, rfl⟩ := hd
    exact ⟨asD_rd hB hO hr hnew h hx, fun b => by simp [V.says, V.says1]⟩

/-! Data without a heap's numbers. -/
mutual
theorem rd_keepN {w w' : World} {O O' : Cells} (h : ∀ b off y, w.cell? ⟨b, off, none⟩ = some y → ¬ O b off → w'.cell? ⟨b, off, none⟩ = some y ∧ ¬ O' b off) : ∀ (d : D) (y : Value), nref d = true → rd w O d y → rd w' O' d y
  | .int _ _, _, _, e => by simpa only [rd] using e
  | .bool _, _, _, e => by simpa only [rd] using e
  | .str _, _, _, e => by simpa only [rd] using e
  | .raw _, _, _, e => by simpa only [rd] using e
  | .sl k l, y, hn, e => by
    simp only [rd] at e ⊢
    obtain ⟨a, n, c, rfl, hk, hn', hl, hr⟩ := e
    refine ⟨a, n, c, rfl, hk, hn', hl, ?_⟩
    rcases hr with hr | ⟨b, off, ha, hr⟩
    · exact .inl hr
    · exact .inr ⟨b, off, ha, rdC_keepN h b off l (by simpa only [nref] using hn) hr⟩
  | .ag l, y, hn, e => by
    simp only [rd] at e ⊢
    obtain ⟨ys, rfl, hr⟩ := e
    exact ⟨ys, rfl, rdL_keepN h l ys (by simpa only [nref] using hn) hr⟩
  | .ref c k off n, y, hn, e => by simp [nref] at hn
theorem rdL_keepN {w w' : World} {O O' : Cells} (h : ∀ b off y, w.cell? ⟨b, off, none⟩ = some y → ¬ O b off → w'.cell? ⟨b, off, none⟩ = some y ∧ ¬ O' b off) : ∀ (l : List D) (ys : List Value), nrefL l = true → rdL w O l ys → rdL w' O' l ys
  | [], _, _, e => by simpa only [rdL] using e
  | d :: r, ys, hn, e => by
    simp only [rdL] at e ⊢
    simp only [nrefL, Bool.and_eq_true] at hn
    obtain ⟨y, t, rfl, h1, h2, h3⟩ := e
    exact ⟨y, t, rfl, h1, rd_keepN h d y hn.1 h2, rdL_keepN h r t hn.2 h3⟩
theorem rdC_keepN {w w' : World} {O O' : Cells} (h : ∀ b off y, w.cell? ⟨b, off, none⟩ = some y → ¬ O b off → w'.cell? ⟨b, off, none⟩ = some y ∧ ¬ O' b off) (b : Nat) : ∀ (off : Nat) (l : List D), nrefL l = true → rdC w O b off l → rdC w' O' b off l
  | _, [], _, _ => by simp only [rdC]
  | off, d :: r, hn, e => by
    simp only [rdC] at e ⊢
    simp only [nrefL, Bool.and_eq_true] at hn
    obtain ⟨h1, ⟨y, h2, h3, h4⟩, h5⟩ := e
    obtain ⟨h6, h7⟩ := h b off y h2 h1
    exact ⟨h7, ⟨y, h6, h3, rd_keepN h d y hn.1 h4⟩, rdC_keepN h b (off + 1) r hn.2 h5⟩
end

theorem nrefL_get : ∀ {l : List D}, nrefL l = true → ∀ (i : Nat) (d : D), l[i]? = some d → nref d = true
  | [], _, i, d, h => by simp at h
  | x :: r, hn, i, d, h => by
    simp only [nrefL, Bool.and_eq_true] at hn
    cases i with
    | zero => simp at h; subst h; exact hn.1
    | succ i => exact nrefL_get hn.2 i d (by simpa using h)

theorem onBlk_sl {O : Cells} {p : Option (Nat × Nat)} {k off n : Nat} {y : Value} {l : List D} (h : onBlk p k off n y) (hl : n * k = l.length) (hA : ∀ g s, p = some (g, s) → rdC w O g off l) : rd w O (.sl k l) y := by
  obtain ⟨hk, h⟩ := h
  cases p with
  | none =>
    simp only at h
    obtain ⟨rfl, rfl, rfl⟩ := h
    have : l = [] := List.length_eq_zero_iff.1 (by omega)
    subst this
    simp only [rd]
    exact ⟨none, 0, 0, rfl, hk, Nat.le_refl _, by simp, by simp⟩
  | some p =>
    obtain ⟨gg, s⟩ := p
    simp only at h
    obtain ⟨o, c, rfl, h1, h2, h3⟩ := h
    simp only [rd]
    refine ⟨some ⟨gg, o, none⟩, n, c, rfl, hk, h1, hl, ?_⟩
    rcases h2 with rfl | rfl
    · have : n = 0 := by omega
      subst this
      exact .inl (List.length_eq_zero_iff.1 (by omega))
    · exact .inr ⟨gg, o, rfl, hA gg s rfl⟩

theorem un_rd {O1 : Outs} {O' : Cells} {ν : Mem} {m' : Nat → Option (Nat × Nat)} {lo : Nat} {Y : Nat → Prop} (hB : Blks lo Y (Ow O1 m' ν) m' ν w') (hO : ∀ g i, O' g i → Ow O1 m' ν g i) (hnew : ∀ g i, (lo ≤ g ∨ Y g) → ¬ O' g i) {d : D} {y : Value} (h : rd w' (Ow O1 m' ν) d y) (ho : d.one = true) (hn : nref (un ν d) = true) : (un ν d).one = true ∧ rd w' O' (un ν d) y := by
  have hK : ∀ b off y, w'.cell? ⟨b, off, none⟩ = some y → ¬ Ow O1 m' ν b off → w'.cell? ⟨b, off, none⟩ = some y ∧ ¬ O' b off := fun b off y h1 h2 => ⟨h1, fun h => h2 (hO b off h)⟩
  cases d with
  | ref c k off n =>
    simp only [un] at hn ⊢
    simp only [rd] at h
    cases hc : aget ν c with
    | none => simp only [hc, nref] at hn; cases hn
    | some B =>
      simp only [hc] at hn ⊢
      split at hn
      case isFalse => simp [nref] at hn
      rename_i hle
      rw [if_pos hle]
      refine ⟨rfl, ?_⟩
      have hlive : onBlk (m' c) k off n y := by
        change onRef (refOf m' ν c) k off n y at h
        unfold refOf at h
        split at h
        · exact h.elim
        · rw [if_pos (by rw [hc]; rfl)] at h; exact h
      refine onBlk_sl hlive (by simp; omega) fun g s hm => ?_
      obtain ⟨h4, h5, h6, arr, T, h7, h8, h9⟩ := hB.blk c B hc g s hm
      refine At.rdC (fun i d hd => ?_) fun i hi => hnew g _ h4
      have h10 := ((At.of_rdB h9 h7).drop off).take (n * k) i d hd
      rw [Nat.zero_add] at h10
      obtain ⟨q1, z, q2, q3⟩ := h10
      exact ⟨q1, z, q2, rd_keepN hK d z (nrefL_get (by simpa only [nref] using hn) i d hd) q3⟩
  | _ => simp only [un] at hn ⊢; exact ⟨ho, rd_keepN hK _ _ hn h⟩

/-- A result as data, all of it. -/
theorem asDD_rd {O1 : Outs} {O' : Cells} {ν : Mem} {m' : Nat → Option (Nat × Nat)} {lo : Nat} {Y : Nat → Prop} (hB : Blks lo Y (Ow O1 m' ν) m' ν w') (hO : ∀ g i, O' g i → Ow O1 m' ν g i) (hnew : ∀ g i, (lo ≤ g ∨ Y g) → ¬ O' g i) {k0 : Nat} {v : V} {x : D} {y : Value} (h : rv m' w' (Ow O1 m' ν) v y) (hd : asDD ν k0 v = some x) (hn : nref x = true) : rd w' O' x y := by
  have hK : ∀ b off y, w'.cell? ⟨b, off, none⟩ = some y → ¬ Ow O1 m' ν b off → w'.cell? ⟨b, off, none⟩ = some y ∧ ¬ O' b off := fun b off y h1 h2 => ⟨h1, fun h => h2 (hO b off h)⟩
  unfold asDD at hd
  split at hd
  · split at hd
    · cases hd
    · rename_i hk0
      cases hd
      have h' : y = .slice none 0 0 ∧ _ := h
      rw [h'.1]
      simp only [rd]
      exact ⟨none, 0, 0, rfl, hk0, Nat.le_refl _, by simp, by simp⟩
  · cases hd
    exact rd_keepN hK _ _ hn h
  · rename_i b k off n
    split at hd
    · rename_i B hBb
      split at hd
      · rename_i hle
        cases hd
        refine onBlk_sl (p := m' b) h (by simp; omega) fun g s hm => ?_
        obtain ⟨h4, h5, h6, arr, T, h7, h8, h9⟩ := hB.blk b B hBb g s hm
        refine At.rdC (fun i d hd => ?_) fun i hi => hnew g _ h4
        have hnn := nrefL_get (by simpa only [nref] using hn) i d hd
        rw [List.getElem?_map, Option.map_eq_some_iff] at hd
        obtain ⟨d0, hd0, rfl⟩ := hd
        have h10 := ((At.of_rdB h9 h7).drop off).take (n * k) i d0 hd0
        rw [Nat.zero_add] at h10
        obtain ⟨q1, z, q2, q3⟩ := h10
        obtain ⟨q4, q5⟩ := un_rd hB hO hnew q3 q1 hnn
        exact ⟨q4, z, q2, q5⟩
      · cases hd
    · cases hd
  · cases hd

theorem asDDs_rd {O1 : Outs} {O' : Cells} {ν : Mem} {m' m'' : Nat → Option (Nat × Nat)} {lo : Nat} {Y : Nat → Prop} (hB : Blks lo Y (Ow O1 m' ν) m' ν w') (hO : ∀ g i, O' g i → Ow O1 m' ν g i) (hnew : ∀ g i, (lo ≤ g ∨ Y g) → ¬ O' g i) : ∀ {vs ds : List V} {ys : List Value}, rvL m' w' (Ow O1 m' ν) vs ys → asDDs ν vs = some ds → rvL m'' w' O' ds ys ∧ ∀ b, ds.any (V.says1 b) = false
  | [], ds, ys, h, hd => by
    simp only [asDDs, Option.some.injEq] at hd
    subst hd
    simp only [rvL] at h ⊢
    exact ⟨h, by simp⟩
  | v :: r, ds, ys, h, hd => by
    simp only [asDDs, Option.bind_eq_some_iff] at hd
    obtain ⟨x, hx, hd⟩ := hd
    split at hd
    case isFalse => cases hd
    rename_i hn
    simp only [Option.bind_eq_some_iff] at hd
    obtain ⟨ds', hds, hd⟩ := hd
    cases hd
    simp only [rvL] at h ⊢
    obtain ⟨y, t, rfl, h1, h2⟩ := h
    obtain ⟨h3, h4⟩ := asDDs_rd (m'' := m'') hB hO hnew h2 hds
    exact ⟨⟨y, t, rfl, asDD_rd hB hO hnew (rv_of_rv1 h1) hx hn, h3⟩, fun b => by simp [V.says1, h4 b]⟩

theorem resDD_rv {O1 : Outs} {O' : Cells} {ν : Mem} {m' m'' : Nat → Option (Nat × Nat)} {lo : Nat} {Y : Nat → Prop} (hB : Blks lo Y (Ow O1 m' ν) m' ν w') (hO : ∀ g i, O' g i → Ow O1 m' ν g i) (hnew : ∀ g i, (lo ≤ g ∨ Y g) → ¬ O' g i) {v v' : V} {y : Value} (h : rv m' w' (Ow O1 m' ν) v y) (hd : resDD ν v = some v') : rv m'' w' O' v' y ∧ ∀ b, v'.says b = false := by
  unfold resDD at hd
  split at hd
  · simp only [Option.map_eq_some_iff] at hd
    obtain ⟨ds, hds, rfl⟩ := hd
    simp only [rv] at h ⊢
    obtain ⟨ys, rfl, h⟩ := h
    obtain ⟨h1, h2⟩ := asDDs_rd (m'' := m'') hB hO hnew h hds
    exact ⟨⟨ys, rfl, h1⟩, fun b => by simp only [V.says]; exact h2 b⟩
  · simp only [Option.bind_eq_some_iff] at hd
    obtain ⟨x, hx, hd⟩ := hd
    split at hd
    case isFalse => cases hd
    rename_i hn
    cases hd
    exact ⟨asDD_rd hB hO hnew h hx hn, fun b => by simp [V.says, V.says1]⟩

theorem cntOf_none {μ : Mem} (h : (aget μ 1099511627775).isNone = true) : cntOf μ = 1099511627776 := by
  unfold cntOf
  cases h' : aget μ 1099511627775 with
  | none => rfl
  | some B => rw [h'] at h; cases h
theorem refOf_none {m : Nat → Option (Nat × Nat)} {μ : Mem} (h : (aget μ 1099511627775).isNone = true) (c : Nat) : refOf m μ c = .fresh := by
  unfold refOf
  rw [cntOf_none h, if_pos (by omega)]
theorem Heap.empty {O0 : Outs} {m0 m : Nat → Option (Nat × Nat)} {nt : Nat} (ht : nt < 1099511000000) (hc : O0.c0 ≤ 1099511627776) (hm : m 1099511627775 = none) : Heap O0 m0 m nt [] :=
  ⟨ht, hc, fun _ _ h => (by cases h), fun _ _ _ => (by omega), hm, fun _ _ _ h => (by cases h)⟩

/-- What a callee takes for the outside. -/
def inner (O : Cells) (Y : Nat → Prop) (c0 : Nat) (live0 : Nat → Prop) (h : 1099511627776 ≤ c0) : Outs := ⟨fun g i => O g i ∧ ¬ Y g, c0, live0, h⟩

theorem Rel.ow_lt (R : Rel w0 X O0 m0 np nt m e μ a w) : ∀ g i, Ow O0 m μ g i → g < w.heap.size := by
  intro g i h
  rcases h with h | ⟨b, B, s, hB, hm, _⟩
  · exact Nat.lt_of_lt_of_le (R.out g i h).1 R.frame.size
  · exact (R.blks.blk b B hB g s hm).2.1

/-- A call whose arguments are data: what the operation comes to, whichever way the result is told. -/
theorem call_wpG (R : Rel w0 X O0 m0 np nt m e μ a w) {f : Nat} {fn : Func} {args : Array Operand} {argTypes : Array TypeId} {l : List Go.Proofs.R.X} {vs ds : List V} {v v' : V} {ν : Mem} {dst : Option Tmp}
    (hf : P.funcs[f]? = some fn) (hn : (fn.name == "runtime.NumGoroutine") = false) (hb : fn.body.isNone = false) (hl : cXs P argTypes.toList args.toList = some l) (hvs : evs e l = some vs) (hds : toDs μ vs = some ds)
    {T : List (Nat × Obj)} (hT : Base T w0 X) (hok : CallOK P T f ds [] v ν)
    (hargs : ∀ (O : Outs) ys, O.own = (Ow O0 m μ).own → rvL m w (Ow O0 m μ) ds ys → rvL m w (Ow O m []) ds ys)
    (hres : ∀ (O : Outs) m' y w', O.own = (Ow O0 m μ).own → (∀ g i, Ow O0 m μ g i → g < w.heap.size) → rv m' w' (Ow O m' ν) v y → Blks w.heap.size (XOf m []) (Ow O m' ν) m' ν w' → rv m w' (Ow O0 m μ) v' y ∧ ∀ b, v'.says b = false)
    {K : Act → World → Prop} {Q : Exit → Act → World → Prop}
    (hK : ∀ y w', Rel w0 X O0 m0 np nt m e μ a w' → rv m w' (Ow O0 m μ) v' y → (∀ b, v'.says b = false) → K (a.put dst y) w') :
    (⟨dst, .call { callee := .value (.func f), args := args, argTypes := argTypes }, ty, pos, after, gd⟩ : Oper).wp P a w K Q := by
  obtain ⟨ys, h1, h2, h3⟩ := cXs_eval R.envOk hl hvs
  obtain ⟨h4, h5⟩ := toDs_rvL (m' := m) R.memOk hds h2 h3
  have hX : ∀ g, ¬ XOf m [] g := by rintro g ⟨b, B, s, h, _⟩; cases h
  have hlt := R.ow_lt
  let Oc : Outs := ⟨(Ow O0 m μ).own, 1099511627776, fun _ => False, Nat.le_refl _⟩
  have := hok Oc m ys w (hargs Oc ys rfl h4) (fun b B h => by cases h) ⟨(fun b B h => by cases h), (fun b b' B B' g s s' h => by cases h)⟩ (fun g i h => ⟨hlt g i h, hX g⟩) (fun u hu b hb => by rw [h5 u hu b] at hb; cases hb) (hT.frame R.frame fun g _ h => (hX g h).elim)
    (Heap.empty (by omega) (Nat.le_refl _) R.heap.hcn)
  unfold Oper.wp
  have hmap : args.map a.eval = ⟨ys⟩ := by rw [← h1]; apply Array.ext'; simp
  rw [run_call_op (by rfl) hf hn hb, Oper.upon_enter, hmap]
  refine this.mono ?_
  rintro ee w' ⟨y, m', rfl, h6, _, h7, _, h8, _⟩
  have hFr : Fr (fun _ => False) w w' := ⟨h8.os, h8.tape, h8.output, h8.size, fun g hg _ => h8.block g hg (hX g)⟩
  obtain ⟨h9, h10⟩ := hres Oc m' y w' rfl hlt h6 h7
  exact hK y w' (R.world hFr) h9 h10

theorem call_wp (R : Rel w0 X O0 m0 np nt m e μ a w) {f : Nat} {fn : Func} {args : Array Operand} {argTypes : Array TypeId} {l : List Go.Proofs.R.X} {vs ds : List V} {v v' : V} {ν : Mem} {dst : Option Tmp}
    (hf : P.funcs[f]? = some fn) (hn : (fn.name == "runtime.NumGoroutine") = false) (hb : fn.body.isNone = false) (hl : cXs P argTypes.toList args.toList = some l) (hvs : evs e l = some vs) (hds : toDs μ vs = some ds)
    {T : List (Nat × Obj)} (hT : Base T w0 X) (hok : CallOK P T f ds [] v ν) (hμ : (aget μ 1099511627775).isNone = true) (hν : (aget ν 1099511627775).isNone = true) (hres : resD ν v = some v') {K : Act → World → Prop} {Q : Exit → Act → World → Prop}
    (hK : ∀ y w', Rel w0 X O0 m0 np nt m e μ a w' → rv m w' (Ow O0 m μ) v' y → (∀ b, v'.says b = false) → K (a.put dst y) w') :
    (⟨dst, .call { callee := .value (.func f), args := args, argTypes := argTypes }, ty, pos, after, gd⟩ : Oper).wp P a w K Q := by
  refine call_wpG R hf hn hb hl hvs hds hT hok (fun O ys hO h => ?_) (fun O m' y w' hO hlt h6 h7 => ?_) hK
  · have : Ow O m [] = Ow O0 m μ := by
      have h1 : refOf m [] = refOf m μ := by funext c; rw [refOf_none hμ, refOf_none rfl]
      unfold Ow
      rw [h1]
      congr 1
      rw [hO]
      funext g i
      simp only [eq_iff_iff]
      constructor
      · rintro (h | ⟨b, B, s, h, _⟩)
        · exact h
        · cases h
      · exact fun h => .inl h
    rw [this]; exact h
  · refine resD_rv h7 (fun g i h => .inl (by rw [hO]; exact h)) (fun c => ?_) (fun g i hg h => ?_) h6 hres
    · change (refOf m' ν c).le _
      rw [refOf_none hν]; trivial
    · rcases hg with hg | hg
      · have := hlt g i h; omega
      · obtain ⟨b, B, s, h, _⟩ := hg; cases h

theorem nrefV_rvL {m' : Nat → Option (Nat × Nat)} {O O' : Cells} (h : ∀ g i, O' g i → O g i) : ∀ {ds : List V} {ys : List Value}, nrefV ds = true → rvL m w O ds ys → rvL m' w O' ds ys
  | [], ys, _, h => by simpa only [rvL] using h
  | .d x :: r, ys, hn, hr => by
    simp only [nrefV, Bool.and_eq_true] at hn
    simp only [rvL] at hr ⊢
    obtain ⟨y, t, rfl, h1, h2⟩ := hr
    exact ⟨y, t, rfl, rd_keepN (fun b off y h1 h2 => ⟨h1, fun h3 => h2 (h b off h3)⟩) x y hn.1 h1, nrefV_rvL h hn.2 h2⟩
  | .own _ _ _ _ :: r, _, hn, _ => by simp [nrefV] at hn
  | .ptr _ _ :: r, _, hn, _ => by simp [nrefV] at hn
  | .cp _ _ :: r, _, hn, _ => by simp [nrefV] at hn
  | .tp _ :: r, _, hn, _ => by simp [nrefV] at hn

/-- A call from where there is a heap: data without numbers go in and come back. -/
theorem callc_wp (R : Rel w0 X O0 m0 np nt m e μ a w) {f : Nat} {fn : Func} {args : Array Operand} {argTypes : Array TypeId} {l : List Go.Proofs.R.X} {vs ds : List V} {v v' : V} {ν : Mem} {dst : Option Tmp}
    (hf : P.funcs[f]? = some fn) (hn : (fn.name == "runtime.NumGoroutine") = false) (hb : fn.body.isNone = false) (hl : cXs P argTypes.toList args.toList = some l) (hvs : evs e l = some vs) (hds : toDs μ vs = some ds)
    {T : List (Nat × Obj)} (hT : Base T w0 X) (hok : CallOK P T f ds [] v ν) (hnr : nrefV ds = true) (hres : resDD ν v = some v') {K : Act → World → Prop} {Q : Exit → Act → World → Prop}
    (hK : ∀ y w', Rel w0 X O0 m0 np nt m e μ a w' → rv m w' (Ow O0 m μ) v' y → (∀ b, v'.says b = false) → K (a.put dst y) w') :
    (⟨dst, .call { callee := .value (.func f), args := args, argTypes := argTypes }, ty, pos, after, gd⟩ : Oper).wp P a w K Q := by
  refine call_wpG R hf hn hb hl hvs hds hT hok (fun O ys hO h => ?_) (fun O m' y w' hO hlt h6 h7 => ?_) hK
  · refine nrefV_rvL (fun g i h => ?_) hnr h
    rcases h with h | ⟨b, B, s, h, _⟩
    · rw [hO] at h; exact h
    · cases h
  · refine resDD_rv h7 (fun g i h => .inl (by rw [hO]; exact h)) (fun g i hg h => ?_) h6 hres
    rcases hg with hg | hg
    · have := hlt g i h; omega
    · obtain ⟨b, B, s, h, _⟩ := hg; cases h
end
end Go.Proofs.R

/- Blocks that were handed over, and those that came back. -/
namespace Go.Proofs.R
open Go Go.RowKit
set_option linter.unusedSimpArgs false

section
variable {P : Program} {w0 w w' : World} {X : Nat → Prop} {O0 : Outs} {m0 m : Nat → Option (Nat × Nat)} {np nt : Nat} {e : Env} {μ : Mem} {a : Act}

theorem Rel.link (R : Rel w0 X O0 m0 np nt m e μ a w) {Y : Nat → Prop} {m' m'' : Nat → Option (Nat × Nat)} {ν' μ'' : Mem} {S : Nat → Nat → Prop} {Oc : Outs} {e' : Env} (hOc : Oc.own = fun g i => Ow O0 m μ g i ∧ ¬ Y g)
    (hF : Fr Y w w') (hB : Blks w.heap.size Y (Ow Oc m' ν') m' ν' w')
    (hY : ∀ g, Y g → ∃ b B s, aget μ b = some B ∧ B.pub = 0 ∧ m b = some (g, s) ∧ ((∃ c, S c b) ∨ aget μ'' b = none))
    (h1 : ∀ c b, S c b → ∃ N φ, aget ν' c = some N ∧ aget μ'' b = some { N with fix := φ } ∧ m'' b = m' c ∧ ((∃ B, aget μ b = some B ∧ B.pub = 0 ∧ φ = B.fix ∧ m' c = m b) ∨ (aget μ b = none ∧ np ≤ b ∧ ∀ g s, m' c = some (g, s) → w.heap.size ≤ g ∨ Y g)))
    (h2 : ∀ b, (∀ c, ¬ S c b) → (np ≤ b ∧ (aget μ'' b = none ∨ (m'' b = none ∧ m b = none))) ∨ (aget μ'' b = aget μ b ∧ m'' b = m b))
    (h3 : ∀ c b b', S c b → S c b' → b = b') (hr1 : ∀ c, (refOf m μ c).le (refOf m' ν' c)) (hr2 : refOf m'' μ'' = refOf m' ν')
    (he' : Srt e') (hE : ∀ t v, aget e' t = some v → aget e t = some v ∧ ∀ b, v.says b = true → Said μ'' b ∧ m'' b = m b) (hH : Heap O0 m0 m'' (max np nt) μ'') :
    Rel w0 X O0 m0 np nt m'' e' μ'' a w' ∧ Keep w' (Ow Oc m' ν') w' (Ow O0 m'' μ'') := by
  have hYb : ∀ g, Y g → (w0.heap.size ≤ g ∨ X g) := fun g hg => by
    obtain ⟨b, B, s, q1, _, q2, _⟩ := hY g hg
    exact (R.blks.blk b B q1 g s q2).1
  -- a block that is as it was
  have hnY : ∀ b B B2 g s, aget μ b = some B → aget μ'' b = some B2 → m b = some (g, s) → (∀ c, ¬ S c b) → ¬ Y g := by
    intro b B B2 g s q1 q2 q3 q4 hg
    obtain ⟨b2, B2, s2, r1, _, r2, r3⟩ := hY g hg
    have := R.blks.inj b b2 B B2 g s s2 q1 r1 q3 r2
    subst this
    rcases r3 with ⟨c, r3⟩ | r3
    · exact q4 c r3
    · rw [q2] at r3; cases r3
  have h2' : ∀ b B g s, (∀ c, ¬ S c b) → aget μ'' b = some B → m'' b = some (g, s) → aget μ b = some B ∧ m b = some (g, s) := by
    intro b B g s q1 q2 q3
    rcases h2 b q1 with ⟨_, k | k⟩ | ⟨k1, k2⟩
    · rw [q2] at k; cases k
    · rw [q3] at k; cases k.1
    · exact ⟨by rw [← k1]; exact q2, by rw [← k2]; exact q3⟩
  have sub : ∀ g i, Ow O0 m'' μ'' g i → Ow Oc m' ν' g i := by
    rintro g i (h | ⟨b, B, s, q1, q2, q3⟩)
    · refine .inl ?_
      rw [hOc]
      refine ⟨.inl h, fun hg => ?_⟩
      obtain ⟨k1, k2⟩ := R.out g i h
      rcases hYb g hg with k | k
      · omega
      · exact k2 k
    · by_cases hl : ∃ c, S c b
      · obtain ⟨c, hc⟩ := hl
        obtain ⟨N, φ, k1, k2, k3, _⟩ := h1 c b hc
        rw [k2] at q1
        cases q1
        exact .inr ⟨c, N, s, k1, by rw [← k3]; exact q2, q3⟩
      · have hl' : ∀ c, ¬ S c b := fun c hc => hl ⟨c, hc⟩
        obtain ⟨k1, k2⟩ := h2' b B g s hl' q1 q2
        refine .inl ?_
        rw [hOc]
        exact ⟨.inr ⟨b, B, s, k1, k2, q3⟩, hnY b B B g s k1 q1 k2 hl'⟩
  have K2 : Keep w' (Ow Oc m' ν') w' (Ow O0 m'' μ'') := ⟨fun b i y k1 k2 => ⟨k1, fun k3 => k2 (sub _ _ k3)⟩, fun c => by
    show (refOf m' ν' c).le (refOf m'' μ'' c)
    rw [hr2]; exact RS.le_refl _⟩
  have K1 : Keep w (Ow O0 m μ) w' (Ow O0 m'' μ'') := by
    refine ⟨?_, fun c => by
      show (refOf m μ c).le (refOf m'' μ'' c)
      rw [hr2]; exact hr1 c⟩
    intro g i y hc hO
    have hlt := cell_lt hc
    have hnY : ¬ Y g := fun hg => by
      obtain ⟨b, B, s, q1, q2, q3, _⟩ := hY g hg
      exact hO (.inr ⟨b, B, s, q1, q3, by omega⟩)
    refine ⟨?_, fun h => ?_⟩
    · have := hF.block g hlt hnY
      simp only [World.cell?] at hc ⊢
      rw [this]
      exact hc
    · rcases sub g i h with k | ⟨c, N, s, k1, k2, k3⟩
      · rw [hOc] at k; exact hO k.1
      · rcases (hB.blk c N k1 g s k2).1 with k | k
        · omega
        · exact hnY k
  refine ⟨⟨R.size, R.defers, he', fun t v h => ?_, fun t v h b hb => ((hE t v h).2 b hb).1, ⟨fun b B hBb g s hm => ?_, fun b b' B B' g s s' q1 q2 q3 q4 => ?_⟩, R.frame.trans hF (fun _ _ h => h) (fun g hg hy => ?_), R.out, fun b B hb hBb => ?_, fun b hb => ?_, hH⟩, K2⟩
  · obtain ⟨he1, he2⟩ := hE t v h
    obtain ⟨y, k1, k2⟩ := R.env t v he1
    exact ⟨y, k1, rv_keep K1 (fun b hb => (he2 b hb).2) k2⟩
  · by_cases hl : ∃ c, S c b
    · obtain ⟨c, hc⟩ := hl
      obtain ⟨N, φ, k1, k2, k3, k4⟩ := h1 c b hc
      rw [k2] at hBb
      cases hBb
      rw [k3] at hm
      obtain ⟨r1, r2, r3, arr, T, r4, r5, r6⟩ := hB.blk c N k1 g s hm
      refine ⟨?_, r2, r3, arr, T, r4, r5, rdB_keep K2 r6⟩
      rcases r1 with r1 | r1
      · exact .inl (Nat.le_trans R.frame.size r1)
      · exact hYb g r1
    · have hl' : ∀ c, ¬ S c b := fun c hc => hl ⟨c, hc⟩
      obtain ⟨k1, k2⟩ := h2' b B g s hl' hBb hm
      obtain ⟨r1, r2, r3, arr, T, r4, r5, r6⟩ := R.blks.blk b B k1 g s k2
      exact ⟨r1, Nat.lt_of_lt_of_le r2 hF.size, r3, arr, T, by rw [hF.block g r2 (hnY b B B g s k1 hBb k2 hl')]; exact r4, r5, rdB_keep K1 r6⟩
  · -- two blocks under one of the model's
    have one : ∀ {b b' : Nat} {B B' : Blk} {g s s' : Nat} {c : Nat}, aget μ'' b' = some B' → m'' b = some (g, s) → m'' b' = some (g, s') → S c b → (∀ c, ¬ S c b') → b = b' := by
      intro b b' B B' g s s' c q2 q3 q4 hc hl'
      obtain ⟨N, φ, k1, k2, k3, k4⟩ := h1 c b hc
      obtain ⟨j1, j2⟩ := h2' b' B' g s' hl' q2 q4
      rcases k4 with ⟨B1, r1, _, _, r2⟩ | ⟨_, _, r2⟩
      · rw [k3, r2] at q3
        exact R.blks.inj b b' B1 B' g s s' r1 j1 q3 j2
      · rw [k3] at q3
        rcases r2 g s q3 with r | r
        · have := (R.blks.blk b' B' j1 g s' j2).2.1
          omega
        · exact absurd r (hnY b' B' B' g s' j1 q2 j2 hl')
    by_cases hl : ∃ c, S c b <;> by_cases hl' : ∃ c, S c b'
    · obtain ⟨c, hc⟩ := hl
      obtain ⟨c', hc'⟩ := hl'
      obtain ⟨N, φ, k1, k2, k3, k4⟩ := h1 c b hc
      obtain ⟨N', φ', k1', k2', k3', k4'⟩ := h1 c' b' hc'
      rw [k3] at q3
      rw [k3'] at q4
      have := hB.inj c c' N N' g s s' k1 k1' q3 q4
      subst this
      exact h3 c b b' hc hc'
    · obtain ⟨c, hc⟩ := hl
      exact one (B := B) q2 q3 q4 hc fun c hc => hl' ⟨c, hc⟩
    · obtain ⟨c, hc⟩ := hl'
      exact (one (B := B') q1 q4 q3 hc fun c hc => hl ⟨c, hc⟩).symm
    · obtain ⟨j1, j2⟩ := h2' b B g s (fun c hc => hl ⟨c, hc⟩) q1 q3
      obtain ⟨j3, j4⟩ := h2' b' B' g s' (fun c hc => hl' ⟨c, hc⟩) q2 q4
      exact R.blks.inj b b' B B' g s s' j1 j3 j2 j4
  · rcases hYb g hy with k | k
    · omega
    · exact k
  · by_cases hl : ∃ c, S c b
    · obtain ⟨c, hc⟩ := hl
      obtain ⟨N, φ, k1, k2, k3, k4⟩ := h1 c b hc
      rw [k2] at hBb
      cases hBb
      rcases k4 with ⟨B1, r1, _, r2, _⟩ | ⟨_, r2, _⟩
      · simp only; rw [r2]; exact R.low b B1 hb r1
      · omega
    · rcases h2 b fun c hc => hl ⟨c, hc⟩ with ⟨k, _⟩ | ⟨k1, k2⟩
      · omega
      · rw [k1] at hBb
        exact R.low b B hb hBb
  · by_cases hl : ∃ c, S c b
    · obtain ⟨c, hc⟩ := hl
      obtain ⟨N, φ, k1, k2, k3, k4⟩ := h1 c b hc
      rcases k4 with ⟨B1, r1, _, _, r2⟩ | ⟨_, r2, _⟩
      · rw [k3, r2]; exact R.stay b hb
      · omega
    · rcases h2 b fun c hc => hl ⟨c, hc⟩ with ⟨k, _⟩ | ⟨k1, k2⟩
      · omega
      · rw [k2]; exact R.stay b hb
end
end Go.Proofs.R

/- Lists of blocks that go into a call and come back. -/
namespace Go.Proofs.R
open Go Go.RowKit
set_option linter.unusedSimpArgs false

section
variable {e : Env} {μ : Mem}

theorem ioK_ge : ∀ {l : List (Bool × Go.Proofs.R.X)} {j c b : Nat}, aget (ioK e j l) c = some b → j ≤ c
  | [], j, c, b, h => by simp [ioK, aget] at h
  | (false, x) :: r, j, c, b, h => by
    simp only [ioK] at h
    have := ioK_ge h
    omega
  | (true, x) :: r, j, c, b, h => by
    simp only [ioK] at h
    split at h
    · simp only [aget] at h
      split at h
      · omega
      · have := ioK_ge h; omega
    · have := ioK_ge h; omega

/-- Arguments, and the blocks that go with them. -/
theorem argsK_get : ∀ {l : List (Bool × Go.Proofs.R.X)} {j : Nat} {vs : List V} {ν : Mem}, argsK e μ j l = some (vs, ν) →
    vs.length = l.length ∧
    (∀ c N, aget ν c = some N → c < j + l.length ∧ N.fix = true ∧ ∃ b B, aget (ioK e j l) c = some b ∧ aget μ b = some B ∧ B.pub = 0 ∧ N = { B with fix := true }) ∧
    (∀ c b, aget (ioK e j l) c = some b → ∃ B, aget μ b = some B ∧ B.pub = 0 ∧ aget ν c = some { B with fix := true }) ∧
    (∀ (i : Nat) (v : V), vs[i]? = some v → ∃ x, l[i]?.map (·.2) = some x ∧ ((∃ u z, x.ev e = some u ∧ toD μ u = some z ∧ v = .d z) ∨ ∃ b u, x.ev e = some u ∧ u.blk? = some b ∧ v = u.re (j + i) ∧ aget (ioK e j l) (j + i) = some b))
  | [], j, vs, ν, h => by
    simp only [argsK, Option.some.injEq, Prod.mk.injEq] at h
    obtain ⟨rfl, rfl⟩ := h
    refine ⟨rfl, fun c N h => by simp [aget] at h, fun c b h => by simp [ioK, aget] at h, fun i v h => by simp at h⟩
  | (false, x) :: r, j, vs, ν, h => by
    simp only [argsK, Option.bind_eq_some_iff] at h
    obtain ⟨v, hv, d, hd, ⟨vs', ν'⟩, h1, h⟩ := h
    cases h
    obtain ⟨k1, k2, k3, k4⟩ := argsK_get h1
    refine ⟨by simp [k1], fun c N hc => ?_, fun c b hc => ?_, fun i u hu => ?_⟩
    · obtain ⟨q1, q2⟩ := k2 c N hc
      exact ⟨by simp only [List.length_cons]; omega, q2⟩
    · simp only [ioK] at hc; exact k3 c b hc
    · cases i with
      | zero =>
        simp at hu
        subst hu
        exact ⟨x, rfl, .inl ⟨v, d, hv, hd, rfl⟩⟩
      | succ i =>
        obtain ⟨y, q1, q2⟩ := k4 i u (by simpa using hu)
        refine ⟨y, by simpa using q1, ?_⟩
        simp only [ioK, show j + (i + 1) = j + 1 + i by omega]
        exact q2
  | (true, x) :: r, j, vs, ν, h => by
    simp only [argsK, Option.bind_eq_some_iff] at h
    obtain ⟨v, hv, b, hvb, B, hB, h⟩ := h
    · split at h
      · rename_i hp
        simp only [Option.bind_eq_some_iff] at h
        obtain ⟨⟨vs', ν'⟩, h1, h⟩ := h
        cases h
        obtain ⟨k1, k2, k3, k4⟩ := argsK_get h1
        have hio : ioK e j ((true, x) :: r) = (j, b) :: ioK e (j + 1) r := by simp only [ioK, hv, Option.bind_some, hvb]
        refine ⟨by simp [k1], fun c N hc => ?_, fun c b' hc => ?_, fun i u hu => ?_⟩
        · rw [hio]
          simp only [aget] at hc ⊢
          split at hc
          · rename_i hj
            cases hc
            simp only [hj, if_true]
            exact ⟨by simp only [List.length_cons]; omega, by simp, b, B, rfl, hB, hp, rfl⟩
          · rename_i hj
            simp only [if_neg hj]
            obtain ⟨q1, q2⟩ := k2 c N hc
            exact ⟨by simp only [List.length_cons]; omega, q2⟩
        · rw [hio] at hc
          simp only [aget] at hc ⊢
          split at hc
          · rename_i hj
            cases hc
            simp only [hj, if_true]
            exact ⟨B, hB, hp, rfl⟩
          · rename_i hj
            simp only [if_neg hj]
            exact k3 c b' hc
        · cases i with
          | zero =>
            simp at hu
            subst hu
            exact ⟨x, rfl, .inr ⟨b, v, hv, hvb, by simp, by rw [hio]; simp [aget]⟩⟩
          | succ i =>
            obtain ⟨y, q1, q2⟩ := k4 i u (by simpa using hu)
            refine ⟨y, by simpa using q1, ?_⟩
            rw [hio]
            simp only [aget]
            rw [if_neg (by omega), show j + (i + 1) = j + 1 + i by omega]
            exact q2
      · cases h

theorem distinct_iff : ∀ {l : List Nat}, distinct l = true ↔ l.Nodup
  | [] => by simp [distinct]
  | x :: r => by simp [distinct, distinct_iff (l := r), List.nodup_cons]

theorem backK_get {ν : Mem} : ∀ {io : List (Nat × Nat)} {μ μ' : Mem}, backK ν io μ = some μ' → (io.map (·.2)).Nodup →
    (∀ c b, (c, b) ∈ io → ∃ B N, aget μ b = some B ∧ aget ν c = some N ∧ aget μ' b = some { N with fix := B.fix }) ∧ ∀ b, (∀ c, (c, b) ∉ io) → aget μ' b = aget μ b
  | [], μ, μ', h, _ => by
    simp only [backK, Option.some.injEq] at h
    subst h
    exact ⟨fun c b h => by simp at h, fun b _ => rfl⟩
  | (j, b0) :: r, μ, μ', h, hn => by
    simp only [backK, Option.bind_eq_some_iff] at h
    obtain ⟨B, hB, N, hN, h⟩ := h
    simp only [List.map_cons, List.nodup_cons] at hn
    obtain ⟨k1, k2⟩ := backK_get h hn.2
    have hb0 : ∀ c, (c, b0) ∉ r := fun c hc => hn.1 (List.mem_map.2 ⟨_, hc, rfl⟩)
    refine ⟨fun c b hc => ?_, fun b hb => ?_⟩
    · rcases List.mem_cons.1 hc with hc' | hc'
      · cases hc'
        exact ⟨B, N, hB, hN, by rw [k2 _ hb0, aget_aput_same]⟩
      · have hne : b ≠ b0 := by rintro rfl; exact hb0 c hc'
        obtain ⟨B', N', q1, q2, q3⟩ := k1 c b hc'
        rw [aget_aput_ne hne] at q1
        exact ⟨B', N', q1, q2, q3⟩
    · have hne : b ≠ b0 := by rintro rfl; exact hb j (by simp)
      rw [k2 b fun c hc => hb c (by simp [hc]), aget_aput_ne hne]

/-- How the callee's blocks and the caller's are linked. -/
structure Lk (np : Nat) (io : List (Nat × Nat)) (ν : Mem) (μ : Mem) (lk : List (Nat × Nat)) (μi : Mem) : Prop where
  old : ∀ c b, aget io c = some b → aget lk c = some b
  link : ∀ c b, aget lk c = some b → ∃ N φ, aget ν c = some N ∧ aget μi b = some { N with fix := φ } ∧ ((∃ B, aget io c = some b ∧ aget μ b = some B ∧ φ = B.fix) ∨ (aget io c = none ∧ aget μ b = none ∧ np ≤ b))
  rest : ∀ b, (∀ c, aget lk c ≠ some b) → aget μi b = aget μ b
  inj : ∀ c c' b, aget lk c = some b → aget lk c' = some b → c = c'
  lowb : ∀ c b, aget lk c = some b → b < 1099511627775
  lowc : ∀ c b, aget lk c = some b → c < 1099511627775

/-- What becomes of a result. -/
def Went (lk : List (Nat × Nat)) (μ : Mem) (v v' : V) : Prop := (∃ x, v = .d x ∧ v' = .d x) ∨ (∃ c b, v.blk? = some c ∧ v' = v.re b ∧ aget lk c = some b) ∨ ∃ c, 1099511627776 ≤ c ∧ v.blk? = some c ∧ v' = v ∧ (aget μ c).isSome = true

theorem resK_ok {np : Nat} {io lk lk' : List (Nat × Nat)} {ν μi μi' : Mem} {id : Nat} {v v' : V} (L : Lk np io ν μ lk μi) (hid : np ≤ id) (h : resK ν id lk μi v = some (v', lk', μi')) :
    Lk np io ν μ lk' μi' ∧ Went lk' μ v v' ∧ ∀ c b, aget lk c = some b → aget lk' c = some b := by
  unfold resK at h
  split at h
  · cases h; exact ⟨L, .inl ⟨_, rfl, rfl⟩, fun _ _ h => h⟩
  · simp only [Option.bind_eq_some_iff] at h
    obtain ⟨c, hvc, h⟩ := h
    split at h
    · rename_i hcl
      split at h
      · rename_i hcs
        cases h
        refine ⟨L, .inr (.inr ⟨c, hcs.1, hvc, rfl, ?_⟩), fun _ _ h => h⟩
        rw [← L.rest c fun c' hc' => by have := L.lowb _ _ hc'; omega]
        exact hcs.2
      · cases h
    rename_i hcl
    split at h
    · rename_i b hb
      cases h
      exact ⟨L, .inr (.inl ⟨c, b, hvc, rfl, hb⟩), fun _ _ h => h⟩
    · rename_i hb
      simp only [Option.bind_eq_some_iff] at h
      obtain ⟨N, hN, h⟩ := h
      split at h
      · rename_i hf
        cases h
        have hf' : aget μi id = none := by simpa using hf.1
        have hidn : ∀ c', aget lk c' ≠ some id := by
          intro c' hc'
          obtain ⟨N', φ, _, q, _⟩ := L.link c' id hc'
          rw [hf'] at q; cases q
        have hμid : aget μ id = none := by rw [← L.rest id hidn]; exact hf'
        have hmono : ∀ c' b', aget lk c' = some b' → aget ((c, id) :: lk) c' = some b' := by
          intro c' b' hc'
          simp only [aget]
          rw [if_neg]
          · exact hc'
          · rintro rfl; rw [hb] at hc'; cases hc'
        refine ⟨⟨fun c' b' h => hmono _ _ (L.old c' b' h), fun c' b' h => ?_, fun b' h => ?_, fun c1 c2 b' q1 q2 => ?_, fun c1 b1 q1 => ?_, fun c1 b1 q1 => ?_⟩, .inr (.inl ⟨c, id, hvc, rfl, by simp [aget]⟩), hmono⟩
        · simp only [aget] at h
          split at h
          · rename_i hcc
            cases h
            subst hcc
            refine ⟨N, N.fix, hN, by rw [aget_aput_same], .inr ⟨?_, hμid, hid⟩⟩
            cases hio : aget io c with
            | none => rfl
            | some b0 => have := L.old c b0 hio; rw [hb] at this; cases this
          · have hne : b' ≠ id := by rintro rfl; exact hidn _ h
            obtain ⟨N', φ, q1, q2, q3⟩ := L.link c' b' h
            exact ⟨N', φ, q1, by rw [aget_aput_ne hne]; exact q2, q3⟩
        · have hne : b' ≠ id := by rintro rfl; exact h c (by simp [aget])
          rw [aget_aput_ne hne]
          exact L.rest b' fun c' hc' => h c' (hmono _ _ hc')
        · simp only [aget] at q1 q2
          split at q1 <;> split at q2
          · omega
          · cases q1; exact absurd q2 (hidn _)
          · cases q2; exact absurd q1 (hidn _)
          · exact L.inj c1 c2 b' q1 q2
        · simp only [aget] at q1
          split at q1
          · cases q1; exact hf.2
          · exact L.lowb c1 b1 q1
        · simp only [aget] at q1
          split at q1
          · omega
          · exact L.lowc c1 b1 q1
      · cases h

theorem resKs_ok {np : Nat} {io : List (Nat × Nat)} {ν : Mem} : ∀ {vs vs' : List V} {lk lk' : List (Nat × Nat)} {μi μi' : Mem} {id : Nat}, Lk np io ν μ lk μi → np ≤ id → resKs ν id lk μi vs = some (vs', lk', μi') →
    Lk np io ν μ lk' μi' ∧ vs'.length = vs.length ∧ (∀ (i : Nat) (v : V), vs[i]? = some v → ∃ v', vs'[i]? = some v' ∧ Went lk' μ v v') ∧ ∀ c b, aget lk c = some b → aget lk' c = some b
  | [], vs', lk, lk', μi, μi', id, L, _, h => by
    simp only [resKs, Option.some.injEq, Prod.mk.injEq] at h
    obtain ⟨rfl, rfl, rfl⟩ := h
    exact ⟨L, rfl, fun i v h => by simp at h, fun _ _ h => h⟩
  | v :: r, vs', lk, lk', μi, μi', id, L, hid, h => by
    simp only [resKs, Option.bind_eq_some_iff] at h
    obtain ⟨⟨v1, lk1, μ1⟩, h1, ⟨r1, lk2, μ2⟩, h2, h⟩ := h
    cases h
    obtain ⟨k1, k2, k3⟩ := resK_ok L hid h1
    obtain ⟨k4, k5, k6, k7⟩ := resKs_ok k1 (by omega) h2
    refine ⟨k4, by simp [k5], fun i u hu => ?_, fun c b h => k7 _ _ (k3 _ _ h)⟩
    cases i with
    | zero =>
      simp at hu
      subst hu
      refine ⟨v1, rfl, ?_⟩
      rcases k2 with k2 | ⟨c, b, q1, q2, q3⟩ | k2
      · exact .inl k2
      · exact .inr (.inl ⟨c, b, q1, q2, k7 _ _ q3⟩)
      · exact .inr (.inr k2)
    | succ i => simpa using k6 i u (by simpa using hu)
end
end Go.Proofs.R

/- Calls that blocks are handed over to. -/
namespace Go.Proofs.R
open Go Go.RowKit
set_option linter.unusedSimpArgs false

section
variable {P : Program} {w0 w w' : World} {X : Nat → Prop} {O0 : Outs} {m0 m : Nat → Option (Nat × Nat)} {np nt : Nat} {e : Env} {μ : Mem} {a : Act}
variable {ty : TypeId} {pos : String} {after : Array Edge} {gd : Option (Nat × Bool)} {d : Nat}

theorem ioK_srt : ∀ (l : List (Bool × Go.Proofs.R.X)) (j : Nat), Srt (ioK e j l) ∧ ∀ p ∈ ioK e j l, j ≤ p.1
  | [], _ => ⟨List.Pairwise.nil, by simp [ioK]⟩
  | (false, x) :: r, j => by
    obtain ⟨h1, h2⟩ := ioK_srt r (j + 1)
    simp only [ioK]
    exact ⟨h1, fun p hp => by have := h2 p hp; omega⟩
  | (true, x) :: r, j => by
    obtain ⟨h1, h2⟩ := ioK_srt r (j + 1)
    simp only [ioK]
    split
    · refine ⟨List.pairwise_cons.2 ⟨fun q hq => by have := h2 q hq; simp only; omega, h1⟩, fun p hp => ?_⟩
      rcases List.mem_cons.1 hp with rfl | hp
      · exact Nat.le_refl _
      · have := h2 p hp; omega
    · exact ⟨h1, fun p hp => by have := h2 p hp; omega⟩

theorem blk_says {v : V} {b : Nat} (h : v.blk? = some b) : v.says b = true := by
  cases v <;> simp_all [V.blk?, V.says, V.says1]
theorem re_says {v : V} {b j c : Nat} (h : v.blk? = some b) (hs : (v.re j).says1 c = true) : j = c := by
  cases v <;> simp_all [V.blk?, V.re, V.says1]
theorem re_notp {v : V} {b j : Nat} (h : v.blk? = some b) : ∀ z, v.re j ≠ .tp z := by
  cases v <;> simp_all [V.blk?, V.re]
theorem re_rv1 {m m' : Nat → Option (Nat × Nat)} {w : World} {O O' : Cells} {v : V} {y : Value} {b j : Nat} (h : v.blk? = some b) (hr : rv1 m w O v y) (hm : m' j = m b) : rv1 m' w O' (v.re j) y := by
  cases v with
  | own c k off n => simp only [V.blk?, Option.some.injEq] at h; subst h; simp only [V.re, rv1] at hr ⊢; rw [hm]; exact hr
  | ptr c off => simp only [V.blk?, Option.some.injEq] at h; subst h; simp only [V.re, rv1] at hr ⊢; rw [hm]; exact hr
  | _ => cases h

theorem ioK_says : ∀ {l : List (Bool × Go.Proofs.R.X)} {j c b : Nat}, aget (ioK e j l) c = some b → ∃ t u, aget e t = some u ∧ u.says b = true
  | [], j, c, b, h => by simp [ioK, aget] at h
  | (false, x) :: r, j, c, b, h => by simp only [ioK] at h; exact ioK_says h
  | (true, x) :: r, j, c, b, h => by
    simp only [ioK] at h
    split at h
    · rename_i b0 hx
      simp only [aget] at h
      split at h
      · cases h
        obtain ⟨v, hx, hv⟩ := Option.bind_eq_some_iff.1 hx
        cases x with
        | t t => exact ⟨t, v, hx, blk_says hv⟩
        | c z => simp only [Go.Proofs.R.X.ev, Option.some.injEq] at hx; subst hx; cases hv
      · exact ioK_says h
    · exact ioK_says h

theorem nodup_snd : ∀ {io : List (Nat × Nat)}, (io.map (·.2)).Nodup → ∀ {c c' b : Nat}, (c, b) ∈ io → (c', b) ∈ io → c = c'
  | [], _, c, c', b, h, _ => by simp at h
  | (j, b0) :: r, hn, c, c', b, h, h' => by
    simp only [List.map_cons, List.nodup_cons] at hn
    have hno : ∀ c, (c, b0) ∉ r := fun c hc => hn.1 (List.mem_map.2 ⟨_, hc, rfl⟩)
    rcases List.mem_cons.1 h with k | k <;> rcases List.mem_cons.1 h' with k' | k'
    · cases k; cases k'; rfl
    · cases k; exact absurd k' (hno _)
    · cases k'; exact absurd k (hno _)
    · exact nodup_snd hn.2 k k'

theorem cXs_get : ∀ {ts : List TypeId} {l : List Operand} {l' : List Go.Proofs.R.X}, cXs P ts l = some l' → l'.length = l.length ∧ ∀ (i : Nat) (x' : Go.Proofs.R.X), l'[i]? = some x' → ∃ t x, l[i]? = some x ∧ cX P t x = some x'
  | ts, [], l', h => by
    have : l' = [] := by cases ts <;> simpa [cXs, eq_comm] using h
    subst this
    exact ⟨rfl, by simp⟩
  | [], x :: xs, l', h => by simp [cXs] at h
  | t :: ts, x :: xs, l', h => by
    simp only [cXs, Option.bind_eq_some_iff, Option.map_eq_some_iff] at h
    obtain ⟨x', hx, r', hr, rfl⟩ := h
    obtain ⟨k1, k2⟩ := cXs_get hr
    refine ⟨by simp [k1], fun i y hy => ?_⟩
    cases i with
    | zero => simp at hy; subst hy; exact ⟨t, x, rfl, hx⟩
    | succ i => simpa using k2 i y (by simpa using hy)

theorem rvL_of {m : Nat → Option (Nat × Nat)} {w : World} {O : Cells} : ∀ {l : List V} {ys : List Value}, ys.length = l.length → (∀ (i : Nat) (v : V), l[i]? = some v → ∃ y, ys[i]? = some y ∧ rv1 m w O v y) → rvL m w O l ys
  | [], [], _, _ => by simp [rvL]
  | [], _ :: _, h, _ => by simp at h
  | _ :: _, [], h, _ => by simp at h
  | x :: r, y :: t, h, H => by
    simp only [rvL]
    obtain ⟨z, hz, h2⟩ := H 0 x (by simp)
    simp at hz
    subst hz
    refine ⟨y, t, rfl, h2, rvL_of (by simpa using h) fun i u hu => ?_⟩
    have := H (i + 1) u (by simpa using hu)
    simpa using this


theorem aget_key {α : Type} (p : Nat → Bool) : ∀ (l : List (Nat × α)) (b : Nat), aget (l.filter fun q => p q.1) b = if p b = true then aget l b else none
  | [], b => by simp [aget]
  | (s, x) :: r, b => by
    have ih := aget_key p r b
    simp only [List.filter_cons]
    by_cases hs : p s = true
    · rw [if_pos hs]
      simp only [aget]
      split
      · rename_i h; subst h; rw [if_pos hs]
      · exact ih
    · rw [if_neg hs, ih]
      by_cases hb : p b = true
      · rw [if_pos hb, if_pos hb]
        simp only [aget]
        rw [if_neg (by rintro rfl; exact hs hb)]
      · rw [if_neg hb, if_neg hb]
theorem aget_hpart (μ : Mem) (b : Nat) : aget (hpart μ) b = if 1099511627775 ≤ b then aget μ b else none := by
  have := aget_key (fun k => decide (1099511627775 ≤ k)) μ b
  simpa [hpart] using this
theorem aget_npart (μ : Mem) (b : Nat) : aget (npart μ) b = if b < 1099511627775 then aget μ b else none := by
  have := aget_key (fun k => decide (k < 1099511627775)) μ b
  simpa [npart] using this
theorem aget_append {α : Type} : ∀ (l l' : List (Nat × α)) (b : Nat), aget (l ++ l') b = match aget l b with | some x => some x | none => aget l' b
  | [], l', b => by simp [aget]
  | (s, x) :: r, l', b => by
    simp only [List.cons_append, aget]
    split
    · rfl
    · exact aget_append r l' b
theorem hpart_nil {μ : Mem} (h : ∀ b, 1099511627775 ≤ b → aget μ b = none) : hpart μ = [] := by
  unfold hpart
  rw [List.filter_eq_nil_iff]
  rintro ⟨k, B⟩ hp
  simp only [decide_eq_true_eq]
  intro hk
  have hk' := h k hk
  clear h
  induction μ with
  | nil => cases hp
  | cons q r ih =>
    obtain ⟨s, x⟩ := q
    simp only [aget] at hk'
    split at hk'
    · cases hk'
    · rename_i hs
      rcases List.mem_cons.1 hp with hp | hp
      · cases hp; exact hs rfl
      · exact ih hp hk'

open Classical in
theorem callG (R : Rel w0 X O0 m0 np nt m e μ a w) {T : List (Nat × Obj)} (hT : Base T w0 X) {f : Nat} {fn : Func} {args : Array Operand} {argTypes : Array TypeId} {l : List Go.Proofs.R.X} {l' : List (Bool × Go.Proofs.R.X)} {vs : List V} {v v2 : V} {ν ν' μ1 μi μ2 : Mem} {dst : Option Tmp}
    (hf : P.funcs[f]? = some fn) (hn : (fn.name == "runtime.NumGoroutine") = false) (hb : fn.body.isNone = false) (hl : cXs P argTypes.toList args.toList = some l) (hz : l'.map (·.2) = l) (hargs : argsK e μ 0 l' = some (vs, ν))
    (hdis : distinct ((ioK e 0 l').map (·.2)) = true) (hlow : ∀ c b, aget (ioK e 0 l') c = some b → b < 1099511627775) (hal : l'.length < 1099511627775)
    (hok : CallOK P T f vs (ν ++ hpart μ) v ν') (hback : backK ν' (ioK e 0 l') μ = some μ1)
    (hmi : (∀ b, 1099511627776 ≤ b → (aget ν' b).isSome = true → b < cntOf ν') → (∀ b, 1099511627776 ≤ b → (aget μ b).isSome = true → b < cntOf μ) → ∀ b, aget μi b = if 1099511627775 ≤ b then aget ν' b else aget μ1 b)
    (hres : resKK (ioK e 0 l') ν' d μi v = some (v2, μ2)) (hnp : np ≤ d) (hd : d < 1099511627775)
    {K : Act → World → Prop} {Q : Exit → Act → World → Prop}
    (hK : ∀ m' y w', Rel w0 X O0 m0 np nt m' e μ2 a w' → rv m' w' (Ow O0 m' μ2) v2 y → (∀ b, v2.says b = true → Said μ2 b) → Quiet none m m' e e μ μ2 v2 → K (a.put dst y) w') :
    (⟨dst, .call { callee := .value (.func f), args := args, argTypes := argTypes }, ty, pos, after, gd⟩ : Oper).wp P a w K Q := by
  obtain ⟨a1, a2, a3, a4⟩ := argsK_get hargs
  obtain ⟨c1, c2⟩ := cXs_get hl
  have hlen : l'.length = l.length := by rw [← hz]; simp
  have hsrt := (ioK_srt (e := e) l' 0).1
  have hnd := distinct_iff.1 hdis
  have mem_io : ∀ {c b}, aget (ioK e 0 l') c = some b → (c, b) ∈ ioK e 0 l' := fun h => aget_mem h
  have io_mem : ∀ {c b}, (c, b) ∈ ioK e 0 l' → aget (ioK e 0 l') c = some b := fun {c b} h => hsrt.aget h
  have hcnt : 1099511627776 ≤ cntOf μ := Nat.le_trans O0.hc0 R.heap.cnt0
  -- the callee's view
  have hνlow : ∀ {c N}, aget ν c = some N → c < 1099511627775 := fun {c N} h => by have := (a2 c N h).1; omega
  have hνh : ∀ c, 1099511627775 ≤ c → aget (ν ++ hpart μ) c = aget μ c := by
    intro c hc
    rw [aget_append, aget_hpart, if_pos hc]
    cases h : aget ν c with
    | none => rfl
    | some N => have := hνlow h; omega
  have hνl : ∀ c, c < 1099511627775 → aget (ν ++ hpart μ) c = aget ν c := by
    intro c hc
    rw [aget_append, aget_hpart, if_neg (by omega)]
    cases h : aget ν c <;> rfl
  let mm : Nat → Option (Nat × Nat) := fun j => if 1099511627775 ≤ j then m j else match aget (ioK e 0 l') j with | some b => m b | none => none
  have hmh : ∀ c, 1099511627775 ≤ c → mm c = m c := fun c hc => by simp only [mm, if_pos hc]
  have hmm : ∀ {c b}, c < 1099511627775 → aget (ioK e 0 l') c = some b → mm c = m b := fun {c b} hc h => by simp only [mm, h]; rw [if_neg (by omega)]
  have hY0 : ∀ {c N g s}, aget (ν ++ hpart μ) c = some N → mm c = some (g, s) → (c < 1099511627775 ∧ ∃ b B, aget (ioK e 0 l') c = some b ∧ aget μ b = some B ∧ B.pub = 0 ∧ m b = some (g, s) ∧ N = { B with fix := true }) ∨ (1099511627776 ≤ c ∧ aget μ c = some N ∧ N.pub = 0 ∧ m c = some (g, s)) := by
    intro c N g s q1 q2
    by_cases hc : c < 1099511627775
    · rw [hνl c hc] at q1
      obtain ⟨_, _, b, B, q3, q4, q5, q6⟩ := a2 c N q1
      exact .inl ⟨hc, b, B, q3, q4, q5, by rw [← hmm hc q3]; exact q2, q6⟩
    · rw [hνh c (by omega)] at q1
      rw [hmh c (by omega)] at q2
      have hc' : 1099511627776 ≤ c := by
        by_cases hcc : c = 1099511627775
        · subst hcc; rw [R.heap.hcn] at q2; cases q2
        · omega
      exact .inr ⟨hc', q1, (R.heap.hpf c N hc' q1).1, q2⟩
  have hYg : ∀ g, XOf mm (ν ++ hpart μ) g → ∃ b B s, aget μ b = some B ∧ B.pub = 0 ∧ m b = some (g, s) ∧ ((∃ c, aget (ioK e 0 l') c = some b) ∨ 1099511627776 ≤ b) := by
    rintro g ⟨c, N, s, q1, q2⟩
    rcases hY0 q1 q2 with ⟨_, b, B, q3, q4, q5, q6, _⟩ | ⟨q3, q4, q5, q6⟩
    · exact ⟨b, B, s, q4, q5, q6, .inl ⟨c, q3⟩⟩
    · exact ⟨c, N, s, q4, q5, q6, .inr q3⟩
  let Oc : Outs := inner (Ow O0 m μ) (XOf mm (ν ++ hpart μ)) (cntOf μ) (fun b => (aget μ b).isSome = true) hcnt
  have hcν : cntOf (ν ++ hpart μ) = cntOf μ := cntOf_low (hνh _ (Nat.le_refl _))
  have hrν : refOf mm (ν ++ hpart μ) = refOf m μ := refOf_low fun b hb => ⟨hνh b hb, hmh b hb⟩
  have hOeq : Ow Oc mm (ν ++ hpart μ) = Ow O0 m μ := by
    unfold Ow
    rw [hrν]
    congr 1
    funext g i
    simp only [eq_iff_iff]
    constructor
    · rintro (h | ⟨c, N, s, q1, q2, q3⟩)
      · exact h.1
      · rcases hY0 q1 q2 with ⟨_, b, B, q4, q5, q6, q7, _⟩ | ⟨q4, q5, q6, q7⟩
        · exact .inr ⟨b, B, s, q5, q7, by omega⟩
        · exact .inr ⟨c, N, s, q5, q7, q3⟩
    · intro h
      by_cases hy : XOf mm (ν ++ hpart μ) g
      · have hy' := hy
        obtain ⟨c, N, s, q1, q2⟩ := hy
        refine .inr ⟨c, N, s, q1, q2, ?_⟩
        rcases hY0 q1 q2 with ⟨_, b, B, q4, q5, q6, q7, rfl⟩ | ⟨q4, q5, q6, q7⟩
        · simp only; omega
        · omega
      · exact .inl ⟨h, hy⟩
  let ys : List Value := args.toList.map a.eval
  have hys : ys.length = vs.length := by simp only [ys, List.length_map]; omega
  have harg : ∀ (i : Nat) (u : V), vs[i]? = some u → ∃ y, ys[i]? = some y ∧ rv1 mm w (Ow O0 m μ) u y := by
    intro i u hu
    obtain ⟨x, hx, hcase⟩ := a4 i u hu
    have hlx : l[i]? = some x := by rw [← hz, List.getElem?_map]; exact hx
    have hil : i < l'.length := by rw [hlen]; exact (List.getElem?_eq_some_iff.1 hlx).1
    obtain ⟨t, xo, q1, q2⟩ := c2 i x hlx
    refine ⟨a.eval xo, by simp only [ys, List.getElem?_map, q1, Option.map_some], ?_⟩
    rcases hcase with ⟨u', z, q3, q4, rfl⟩ | ⟨b, u', q3, hub, rfl, q4⟩
    · exact toD_rd R.memOk (ev_ok R.envOk q2 q3) q4
    · have := ev_ok R.envOk q2 q3
      have h1 : rv1 m w (Ow O0 m μ) u' (a.eval xo) := by cases u' <;> first | exact this | cases hub
      exact re_rv1 hub h1 (hmm (by omega) q4)
  have hlt := R.ow_lt
  have hHc : Heap Oc mm mm 0 (ν ++ hpart μ) := by
    refine ⟨by omega, by rw [hcν]; exact Nat.le_refl _, fun b hb hs => ?_, fun b hb hlt => ⟨rfl, fun hs => ?_⟩, by rw [hmh _ (Nat.le_refl _)]; exact R.heap.hcn, fun b B hb hB => ?_⟩
    · rw [hνh b (by omega)] at hs
      rw [hcν]; exact R.heap.hlt b hb hs
    · rw [hνh b (by omega)] at hs; exact hs
    · rw [hνh b (by omega)] at hB; exact R.heap.hpf b B hb hB
  have hcall := hok Oc mm ys w (by rw [hOeq]; exact rvL_of hys harg)
    (fun c N hc => by
      by_cases hc' : 1099511627775 ≤ c
      · exact .inl hc'
      · rw [hνl c (by omega)] at hc
        obtain ⟨q1, q2, _⟩ := a2 c N hc
        exact .inr ⟨by omega, q2⟩)
    (by
      rw [hOeq]
      refine ⟨fun c N hc g s hm => ?_, fun c c' N N' g s s' q1 q2 q3 q4 => ?_⟩
      · rcases hY0 hc hm with ⟨_, b, B, q4, q5, q6, q7, rfl⟩ | ⟨q4, q5, q6, q7⟩
        · obtain ⟨_, r2, r3⟩ := R.blks.blk b B q5 g s q7
          exact ⟨.inr ⟨c, _, s, hc, hm⟩, r2, r3⟩
        · obtain ⟨_, r2, r3⟩ := R.blks.blk c N q5 g s q7
          exact ⟨.inr ⟨c, _, s, hc, hm⟩, r2, r3⟩
      · rcases hY0 q1 q3 with ⟨k0, b, B, k3, k4, _, k5, _⟩ | ⟨k0, k4, _, k5⟩ <;> rcases hY0 q2 q4 with ⟨j0, b', B', j3, j4, _, j5, _⟩ | ⟨j0, j4, _, j5⟩
        · have := R.blks.inj b b' B B' g s s' k4 j4 k5 j5
          subst this
          exact nodup_snd hnd (mem_io k3) (mem_io j3)
        · have := R.blks.inj b c' B N' g s s' k4 j4 k5 j5
          have := hlow _ _ k3
          omega
        · have := R.blks.inj c b' N B' g s s' k4 j4 k5 j5
          have := hlow _ _ j3
          omega
        · exact R.blks.inj c c' N N' g s s' k4 j4 k5 j5)
    (fun g i h => ⟨hlt g i h.1, h.2⟩)
    (fun u hu b hb => by
      obtain ⟨i, hi⟩ := List.getElem?_of_mem hu
      obtain ⟨x, _, hcase⟩ := a4 i u hi
      rcases hcase with ⟨u', z, _, _, rfl⟩ | ⟨b', u', _, hub, rfl, q4⟩
      · simp [V.says, V.says1] at hb
      · have : 0 + i = b := re_says hub (by cases u' <;> first | exact hb | cases hub)
        subst this
        obtain ⟨B, _, _, q5⟩ := a3 _ _ q4
        exact .inl ⟨hνlow q5, by rw [hνl _ (hνlow q5), q5]; rfl⟩)
    (hT.frame R.frame fun g hg hy => by
      obtain ⟨b, B, s, q1, _, q2, _⟩ := hYg g hy
      rcases (R.blks.blk b B q1 g s q2).1 with k | k
      · omega
      · exact k) hHc
  unfold Oper.wp
  have hmap : args.map a.eval = ⟨ys⟩ := by apply Array.ext'; simp [ys]
  rw [run_call_op (by rfl) hf hn hb, Oper.upon_enter, hmap]
  refine hcall.mono ?_
  rintro ee w' ⟨y, m', rfl, h6, hlowm, h7, hsy, h8, hH⟩
  have hμi := hmi hH.hlt R.heap.hlt
  -- behind the call
  have hμilow : ∀ b, b < 1099511627775 → aget μi b = aget μ1 b := fun b hb => by rw [hμi b, if_neg (by omega)]
  have hμih : ∀ b, 1099511627775 ≤ b → aget μi b = aget ν' b := fun b hb => by rw [hμi b, if_pos hb]
  -- the memory that the links change
  let μb : Mem := npart μ ++ hpart ν'
  have hμbl : ∀ b, b < 1099511627775 → aget μb b = aget μ b := fun b hb => by
    simp only [μb]; rw [aget_append, aget_npart, if_pos hb, aget_hpart, if_neg (by omega)]; cases aget μ b <;> rfl
  have hμbh : ∀ b, 1099511627775 ≤ b → aget μb b = aget ν' b := fun b hb => by
    simp only [μb]; rw [aget_append, aget_npart, if_neg (by omega), aget_hpart, if_pos hb]
  have L0 : Lk np (ioK e 0 l') ν' μb (ioK e 0 l') μi := by
    obtain ⟨b1, b2⟩ := backK_get hback hnd
    refine ⟨fun _ _ h => h, fun c b h => ?_, fun b h => ?_, fun c c' b q1 q2 => nodup_snd hnd (mem_io q1) (mem_io q2), hlow, fun c b h => ?_⟩
    · have hbl := hlow c b h
      obtain ⟨B, N, q1, q2, q3⟩ := b1 c b (mem_io h)
      exact ⟨N, B.fix, q2, by rw [hμilow b hbl]; exact q3, .inl ⟨B, h, by rw [hμbl b hbl]; exact q1, rfl⟩⟩
    · by_cases hbl : b < 1099511627775
      · rw [hμilow b hbl, hμbl b hbl]
        exact b2 b fun c hc => h c (io_mem hc)
      · rw [hμih b (by omega), hμbh b (by omega)]
    · obtain ⟨B, _, _, q⟩ := a3 c b h
      exact hνlow q
  have hres' : ∃ (us us' : List V) (lk : List (Nat × Nat)), resKs ν' d (ioK e 0 l') μi us = some (us', lk, μ2) ∧ ((v = .tp us ∧ v2 = .tp us') ∨ ((∀ z, v ≠ .tp z) ∧ us = [v] ∧ us' = [v2])) := by
    unfold resKK at hres
    split at hres
    · rename_i us
      simp only [Option.map_eq_some_iff] at hres
      obtain ⟨⟨us', lk, μ3⟩, q1, q2⟩ := hres
      cases q2
      exact ⟨us, us', lk, q1, .inl ⟨rfl, rfl⟩⟩
    · rename_i hnt
      simp only [Option.bind_eq_some_iff] at hres
      obtain ⟨⟨us', lk, μ3⟩, q1, q2⟩ := hres
      split at q2
      · rename_i z hz'
        cases q2
        simp only at hz'
        subst hz'
        exact ⟨[v], _, lk, q1, .inr ⟨fun z hz => hnt z hz, rfl, rfl⟩⟩
      · cases q2
  obtain ⟨us, us', lk, hks, hcase⟩ := hres'
  obtain ⟨L, klen, kres, _⟩ := resKs_ok L0 hnp hks
  have hμ2h : ∀ b, 1099511627775 ≤ b → aget μ2 b = aget ν' b := fun b hb => by
    rw [L.rest b fun c hc => by have := L.lowb c b hc; omega, hμbh b hb]
  let m'' : Nat → Option (Nat × Nat) := fun b => if h : ∃ c, aget lk c = some b then m' h.choose else if 1099511627775 ≤ b then m' b else m b
  have hm1 : ∀ {c b}, aget lk c = some b → m'' b = m' c := by
    intro c b hc
    have hh : ∃ c, aget lk c = some b := ⟨c, hc⟩
    simp only [m'', dif_pos hh]
    rw [L.inj _ _ b hh.choose_spec hc]
  have hm2 : ∀ {b}, b < 1099511627775 → (∀ c, ¬ aget lk c = some b) → m'' b = m b := by
    intro b hb hc
    simp only [m'']
    rw [dif_neg, if_neg (by omega)]
    rintro ⟨c, h⟩
    exact hc c h
  have hm3 : ∀ {b}, 1099511627775 ≤ b → m'' b = m' b := by
    intro b hb
    simp only [m'']
    rw [dif_neg, if_pos hb]
    rintro ⟨c, h⟩
    have := L.lowb c b h
    omega
  have hold : ∀ c, 1099511627776 ≤ c → c < cntOf μ → m' c = m c := by
    intro c hc hs
    rw [(hH.hst c hc hs).1, hmh c (by omega)]
  have hlow' : ∀ {c b}, aget (ioK e 0 l') c = some b → m' c = m b := by
    intro c b hc
    obtain ⟨B, _, _, q⟩ := a3 c b hc
    obtain ⟨q1, _⟩ := a2 c _ q
    rw [hlowm c (by omega), hmm (hνlow q) hc]
  have hr2 : refOf m'' μ2 = refOf m' ν' := refOf_low fun b hb => ⟨hμ2h b hb, hm3 hb⟩
  have hcμ2 : cntOf μ2 = cntOf ν' := cntOf_low (hμ2h _ (Nat.le_refl _))
  have hcc : cntOf μ ≤ cntOf ν' := hH.cnt0
  obtain ⟨R', K2⟩ := R.link (S := fun c b => aget lk c = some b ∨ (1099511627776 ≤ c ∧ c = b ∧ (aget ν' c).isSome = true)) (m'' := m'') (μ'' := μ2) (Oc := Oc) (e' := e) rfl h8 h7 (fun g hg => by
      obtain ⟨b, B, s, q1, q2, q3, q4⟩ := hYg g hg
      refine ⟨b, B, s, q1, q2, q3, ?_⟩
      rcases q4 with ⟨c, q4⟩ | q4
      · exact .inl ⟨c, .inl (L.old c b q4)⟩
      · cases hb' : aget ν' b with
        | none => exact .inr (by rw [hμ2h b (by omega)]; exact hb')
        | some N => exact .inl ⟨b, .inr ⟨q4, rfl, by rw [hb']; rfl⟩⟩)
    (fun c b hc => by
      rcases hc with hc | ⟨hc, rfl, hs⟩
      · obtain ⟨N, φ, q1, q2, q3⟩ := L.link c b hc
        have hbl := L.lowb c b hc
        refine ⟨N, φ, q1, q2, hm1 hc, ?_⟩
        rcases q3 with ⟨B, q4, q5, q6⟩ | ⟨q4, q5, q6⟩
        · rw [hμbl b hbl] at q5
          obtain ⟨B', r1, r2, _⟩ := a3 c b q4
          rw [q5] at r1
          cases r1
          exact .inl ⟨B, q5, r2, q6, hlow' q4⟩
        · rw [hμbl b hbl] at q5
          exact .inr ⟨q5, q6, fun g s hg => (h7.blk c N q1 g s hg).1⟩
      · obtain ⟨N, hN⟩ := Option.isSome_iff_exists.1 hs
        have hNf := hH.hpf c N hc hN
        refine ⟨N, N.fix, hN, by rw [hμ2h c (by omega), hN], hm3 (by omega), ?_⟩
        cases hμc : aget μ c with
        | some B =>
          have hBf := R.heap.hpf c B hc hμc
          exact .inl ⟨B, rfl, hBf.1, by rw [hNf.2, hBf.2], hold c hc (R.heap.hlt c hc (by rw [hμc]; rfl))⟩
        | none => exact .inr ⟨rfl, by omega, fun g s hg => (h7.blk c N hN g s hg).1⟩)
    (fun b hc => by
      by_cases hbl : b < 1099511627775
      · refine .inr ⟨?_, hm2 hbl fun c h => hc c (.inl h)⟩
        rw [L.rest b fun c h => hc c (.inl h), hμbl b hbl]
      · refine .inl ⟨by omega, ?_⟩
        by_cases hbc : b = 1099511627775
        · subst hbc
          exact .inr ⟨by rw [hm3 (Nat.le_refl _)]; exact hH.hcn, R.heap.hcn⟩
        · refine .inl ?_
          rw [hμ2h b (by omega)]
          cases hb' : aget ν' b with
          | none => rfl
          | some N => exact absurd (.inr ⟨by omega, rfl, by rw [hb']; rfl⟩) (hc b))
    (fun c b b' q1 q2 => by
      rcases q1 with q1 | ⟨k1, rfl, _⟩ <;> rcases q2 with q2 | ⟨k2, rfl, _⟩
      · rw [q1] at q2; cases q2; rfl
      · have := L.lowc _ _ q1; omega
      · have := L.lowc _ _ q2; omega
      · rfl)
    (fun c => by
      unfold refOf
      by_cases hc : c < 1099511627776
      · rw [if_pos (.inl hc)]; trivial
      · by_cases hc2 : cntOf μ ≤ c
        · rw [if_pos (.inr hc2)]; trivial
        · rw [if_neg (by omega), if_neg (c := c < 1099511627776 ∨ cntOf ν' ≤ c) (by omega)]
          by_cases hs : (aget μ c).isSome = true
          · rw [if_pos hs]
            by_cases hs' : (aget ν' c).isSome = true
            · rw [if_pos hs', hold c (by omega) (by omega)]; exact RS.le_refl _
            · rw [if_neg hs']; exact .inr rfl
          · rw [if_neg hs, if_neg fun hs' => hs ((hH.hst c (by omega) (show c < cntOf μ by omega)).2 hs')]
            exact RS.le_refl _)
    hr2 R.srt (fun t u h => by
      refine ⟨h, fun b hb => ?_⟩
      rcases R.says t u h b hb with ⟨hbl, hs⟩ | ⟨hbh, hs⟩
      · by_cases hl : ∃ c, aget lk c = some b
        · obtain ⟨c, hc⟩ := hl
          obtain ⟨N, φ, _, q, q3⟩ := L.link c b hc
          refine ⟨.inl ⟨hbl, by rw [q]; rfl⟩, ?_⟩
          rw [hm1 hc]
          rcases q3 with ⟨B, q4, _, _⟩ | ⟨_, q5, _⟩
          · exact hlow' q4
          · rw [hμbl b hbl] at q5; rw [q5] at hs; cases hs
        · exact ⟨.inl ⟨hbl, by rw [L.rest b fun c hc => hl ⟨c, hc⟩, hμbl b hbl]; exact hs⟩, hm2 hbl fun c hc => hl ⟨c, hc⟩⟩
      · exact ⟨.inr ⟨hbh, by rw [hcμ2]; omega⟩, by rw [hm3 (by omega)]; exact hold b hbh hs⟩)
    ⟨R.heap.ntb, by rw [hcμ2]; exact Nat.le_trans R.heap.cnt0 hcc, fun b hb hs => by
        rw [hμ2h b (by omega)] at hs; rw [hcμ2]; exact hH.hlt b hb hs,
      fun b hb hlt' => by
        have hlt2 : b < cntOf μ := Nat.lt_of_lt_of_le hlt' R.heap.cnt0
        obtain ⟨q4, q3⟩ := R.heap.hst b hb hlt'
        exact ⟨by rw [hm3 (by omega), hold b hb hlt2]; exact q4, fun hs => by
          rw [hμ2h b (by omega)] at hs
          exact q3 ((hH.hst b hb hlt2).2 hs)⟩,
      by rw [hm3 (Nat.le_refl _)]; exact hH.hcn, fun b B hb hB => by rw [hμ2h b (by omega)] at hB; exact hH.hpf b B hb hB⟩
  have went1 : ∀ {u u' : V} {z : Value}, Went lk μb u u' → rv1 m' w' (Ow Oc m' ν') u z → rv1 m'' w' (Ow O0 m'' μ2) u' z := by
    intro u u' z hw hr
    rcases hw with ⟨x, rfl, rfl⟩ | ⟨c, b, hub, rfl, hc⟩ | ⟨c, hc, hub, rfl, hs⟩
    · exact rd_keep K2 x z hr
    · exact re_rv1 hub hr (hm1 hc)
    · have := re_rv1 (O' := Ow O0 m'' μ2) (j := c) hub hr (hm3 (by omega))
      cases u' <;> simp only [V.blk?, Option.some.injEq] at hub <;> first | (subst hub; exact this) | cases hub
  have wsay : ∀ {u u' : V} {b : Nat}, Went lk μb u u' → u'.says1 b = true → (∃ c, aget lk c = some b) ∨ (1099511627775 ≤ b ∧ Said μ2 b) := by
    intro u u' b hw hs
    rcases hw with ⟨x, rfl, rfl⟩ | ⟨c, b', hub, rfl, hc⟩ | ⟨c, hc, hub, rfl, hsm⟩
    · simp [V.says1] at hs
    · have : b' = b := re_says hub hs
      subst this
      exact .inl ⟨c, hc⟩
    · have : c = b := by cases u' <;> simp_all [V.blk?, V.says1]
      subst this
      rw [hμbh c (by omega)] at hsm
      exact .inr ⟨by omega, .inr ⟨hc, by rw [hcμ2]; exact hH.hlt c hc hsm⟩⟩
  have wntp : ∀ {u u' : V}, Went lk μb u u' → ∀ z, u' ≠ .tp z := by
    intro u u' hw z hz
    rcases hw with ⟨x, rfl, rfl⟩ | ⟨c, b', hub, rfl, hc⟩ | ⟨c, _, hub, rfl, _⟩
    · cases hz
    · exact re_notp hub _ hz
    · subst hz; cases hub
  have hv2 : rv m'' w' (Ow O0 m'' μ2) v2 y ∧ ∀ b, v2.says b = true → (∃ c, aget lk c = some b) ∨ (1099511627775 ≤ b ∧ Said μ2 b) := by
    rcases hcase with ⟨rfl, rfl⟩ | ⟨hnt, rfl, rfl⟩
    · obtain ⟨zs, rfl, hzs⟩ := h6
      obtain ⟨q1, q2⟩ := rvL_get hzs
      refine ⟨⟨zs, rfl, rvL_of (by omega) fun i u' hu' => ?_⟩, fun b hb => ?_⟩
      · have hi : i < us.length := by rw [← klen]; exact (List.getElem?_eq_some_iff.1 hu').1
        obtain ⟨u'', r1, r2⟩ := kres i _ (List.getElem?_eq_getElem hi)
        rw [hu'] at r1
        cases r1
        obtain ⟨z, r3, r4⟩ := q2 i _ (List.getElem?_eq_getElem hi)
        exact ⟨z, r3, went1 r2 r4⟩
      · have hb' : us'.any (V.says1 b) = true := hb
        rw [List.any_eq_true] at hb'
        obtain ⟨u', hu, hu2⟩ := hb'
        obtain ⟨i, hi⟩ := List.getElem?_of_mem hu
        have hil : i < us.length := by rw [← klen]; exact (List.getElem?_eq_some_iff.1 hi).1
        obtain ⟨u'', r1, r2⟩ := kres i _ (List.getElem?_eq_getElem hil)
        rw [hi] at r1
        cases r1
        exact wsay r2 hu2
    · obtain ⟨u'', r1, r2⟩ := kres 0 v rfl
      simp at r1
      subst r1
      have hv1 : rv1 m' w' (Ow Oc m' ν') v y := by cases v <;> first | exact h6 | exact absurd rfl (hnt _)
      refine ⟨rv_of_rv1 (went1 r2 hv1), fun b hb => wsay r2 ?_⟩
      cases v2 <;> first | exact hb | exact absurd rfl (wntp r2 _)
  refine hK m'' y w' R' hv2.1 (fun b hb => ?_) fun id hid _ hs hB => ?_
  · rcases hv2.2 b hb with ⟨c, hc⟩ | ⟨_, h⟩
    · obtain ⟨N, φ, _, q2, _⟩ := L.link c b hc
      exact .inl ⟨L.lowb c b hc, by rw [q2]; rfl⟩
    · exact h
  · have hno : ∀ c, ¬ aget lk c = some id := by
      intro c hc
      obtain ⟨N, φ, _, _, q3⟩ := L.link c id hc
      rcases q3 with ⟨B, q4, _, _⟩ | ⟨_, q5, _⟩
      · obtain ⟨t, u, r1, r2⟩ := ioK_says q4
        rw [hs t u r1] at r2; cases r2
      · obtain ⟨B, hB, _⟩ := hB
        rw [hμbl id hid, hB] at q5; cases q5
    refine ⟨hm2 hid hno, by rw [L.rest id hno, hμbl id hid], ?_, hs⟩
    cases hsv : v2.says id with
    | false => rfl
    | true =>
      rcases hv2.2 id hsv with ⟨c, hc⟩ | ⟨h, _⟩
      · exact absurd hc (hno c)
      · omega

/-- A call that blocks are handed over to, where there is no heap. -/
theorem callk_wp' (R : Rel w0 X O0 m0 np nt m e μ a w) {T : List (Nat × Obj)} (hT : Base T w0 X) {f : Nat} {fn : Func} {args : Array Operand} {argTypes : Array TypeId} {l : List Go.Proofs.R.X} {l' : List (Bool × Go.Proofs.R.X)} {vs : List V} {v v2 : V} {ν ν' μ1 μ2 : Mem} {dst : Option Tmp}
    (hf : P.funcs[f]? = some fn) (hn : (fn.name == "runtime.NumGoroutine") = false) (hb : fn.body.isNone = false) (hl : cXs P argTypes.toList args.toList = some l) (hz : l'.map (·.2) = l) (hargs : argsK e μ 0 l' = some (vs, ν))
    (hdis : distinct ((ioK e 0 l').map (·.2)) = true) (hμ : (aget μ 1099511627775).isNone = true) (hν : (aget ν' 1099511627775).isNone = true) (hal : l'.length < 1099511627775)
    (hok : CallOK P T f vs ν v ν') (hback : backK ν' (ioK e 0 l') μ = some μ1) (hres : resKK (ioK e 0 l') ν' d μ1 v = some (v2, μ2)) (hnp : np ≤ d) (hd : d < 1099511627775) {K : Act → World → Prop} {Q : Exit → Act → World → Prop}
    (hK : ∀ m' y w', Rel w0 X O0 m0 np nt m' e μ2 a w' → rv m' w' (Ow O0 m' μ2) v2 y → (∀ b, v2.says b = true → Said μ2 b) → Quiet none m m' e e μ μ2 v2 → K (a.put dst y) w') :
    (⟨dst, .call { callee := .value (.func f), args := args, argTypes := argTypes }, ty, pos, after, gd⟩ : Oper).wp P a w K Q := by
  have none_of : ∀ {ρ : Mem}, (aget ρ 1099511627775).isNone = true → (∀ b, 1099511627776 ≤ b → (aget ρ b).isSome = true → b < cntOf ρ) → ∀ b, 1099511627775 ≤ b → aget ρ b = none := by
    intro ρ h0 h1 b hb
    by_cases hbc : b = 1099511627775
    · subst hbc; simpa using h0
    · cases h : aget ρ b with
      | none => rfl
      | some B =>
        have := h1 b (by omega) (by rw [h]; rfl)
        rw [cntOf_none h0] at this
        omega
  have hμn := none_of hμ R.heap.hlt
  have hlow : ∀ c b, aget (ioK e 0 l') c = some b → b < 1099511627775 := by
    intro c b h
    obtain ⟨_, _, a3, _⟩ := argsK_get hargs
    obtain ⟨B, q, _⟩ := a3 c b h
    by_cases hb : b < 1099511627775
    · exact hb
    · rw [hμn b (by omega)] at q; cases q
  refine callG R hT hf hn hb hl hz hargs hdis hlow hal (by rw [hpart_nil hμn, List.append_nil]; exact hok) hback (fun h1 h2 b => ?_) hres hnp hd hK
  · split
    · rename_i hb
      rw [none_of hν h1 b hb]
      obtain ⟨b1, b2⟩ := backK_get hback (distinct_iff.1 hdis)
      rw [b2 b fun c hc => by have := hlow c b ((ioK_srt (e := e) l' 0).1.aget hc); omega]
      exact hμn b hb
    · rfl

/-- A call that the heap is handed over to. -/
theorem callh_wp (R : Rel w0 X O0 m0 np nt m e μ a w) {T : List (Nat × Obj)} (hT : Base T w0 X) {f : Nat} {fn : Func} {args : Array Operand} {argTypes : Array TypeId} {l : List Go.Proofs.R.X} {l' : List (Bool × Go.Proofs.R.X)} {vs : List V} {v v2 : V} {ν ν' μ1 μ2 : Mem} {dst : Option Tmp}
    (hf : P.funcs[f]? = some fn) (hn : (fn.name == "runtime.NumGoroutine") = false) (hb : fn.body.isNone = false) (hl : cXs P argTypes.toList args.toList = some l) (hz : l'.map (·.2) = l) (hargs : argsK e μ 0 l' = some (vs, ν))
    (hdis : distinct ((ioK e 0 l').map (·.2)) = true) (hlow : (ioK e 0 l').all (fun p => decide (p.2 < 1099511627775)) = true) (hal : l'.length < 1099511627775)
    (hok : CallOK P T f vs (ν ++ hpart μ) v ν') (hback : backK ν' (ioK e 0 l') μ = some μ1) (hres : resKK (ioK e 0 l') ν' d (npart μ1 ++ hpart ν') v = some (v2, μ2)) (hnp : np ≤ d) (hd : d < 1099511627775) {K : Act → World → Prop} {Q : Exit → Act → World → Prop}
    (hK : ∀ m' y w', Rel w0 X O0 m0 np nt m' e μ2 a w' → rv m' w' (Ow O0 m' μ2) v2 y → (∀ b, v2.says b = true → Said μ2 b) → Quiet none m m' e e μ μ2 v2 → K (a.put dst y) w') :
    (⟨dst, .call { callee := .value (.func f), args := args, argTypes := argTypes }, ty, pos, after, gd⟩ : Oper).wp P a w K Q := by
  refine callG R hT hf hn hb hl hz hargs hdis (fun c b h => ?_) hal hok hback (fun h1 h2 b => ?_) hres hnp hd hK
  · have := List.all_eq_true.1 hlow _ (aget_mem h)
    simpa using this
  · split
    · rename_i hb
      rw [aget_append, aget_npart, if_neg (by omega), aget_hpart, if_pos hb]
    · rename_i hb
      rw [aget_append, aget_npart, if_pos (by omega), aget_hpart, if_neg hb]
      cases aget μ1 b <;> rfl
end
end Go.Proofs.R

/- Blocks that move to the heap, and from it. -/
namespace Go.Proofs.R
open Go Go.RowKit
set_option linter.unusedSimpArgs false

section
variable {P : Program} {w0 w w' : World} {X : Nat → Prop} {O0 : Outs} {m0 m : Nat → Option (Nat × Nat)} {np nt : Nat} {e : Env} {μ : Mem} {a : Act}

theorem aget_map {α β : Type} (f : α → β) : ∀ (l : List (Nat × α)) (t : Nat), aget (l.map fun p => (p.1, f p.2)) t = (aget l t).map f
  | [], t => rfl
  | (s, x) :: r, t => by
    simp only [List.map_cons, aget]
    split
    · rfl
    · exact aget_map f r t
theorem Srt.map {α β : Type} (f : α → β) {l : List (Nat × α)} (h : Srt l) : Srt (l.map fun p => (p.1, f p.2)) := by
  unfold Srt at *
  rw [List.pairwise_map]
  exact h

theorem ren1_says {v : V} {b c k : Nat} (h : (v.ren1 b c).says1 k = true) : k = c ∨ (v.says1 k = true ∧ (k ≠ b ∨ ∃ l, v = .tp l)) := by
  unfold V.ren1 at h
  split at h
  · rename_i hb
    exact .inl (re_says hb h).symm
  · rename_i hb
    refine .inr ⟨h, ?_⟩
    cases v with
    | tp l => exact .inr ⟨l, rfl⟩
    | own b' _ _ _ => refine .inl ?_; rintro rfl; simp [V.says1] at h; subst h; exact hb rfl
    | ptr b' _ => refine .inl ?_; rintro rfl; simp [V.says1] at h; subst h; exact hb rfl
    | d x => simp [V.says1] at h
    | cp l i => simp [V.says1] at h
theorem ren_says {v : V} {b c k : Nat} (hn : ∀ l u, v = .tp l → u ∈ l → ∀ l', u ≠ .tp l') (h : (v.ren b c).says k = true) : k = c ∨ (v.says k = true ∧ k ≠ b) := by
  have one : ∀ {u : V}, (∀ l, u ≠ .tp l) → (u.ren1 b c).says1 k = true → k = c ∨ (u.says1 k = true ∧ k ≠ b) := by
    intro u hu h
    rcases ren1_says h with h | ⟨h1, h2 | ⟨l, h2⟩⟩
    · exact .inl h
    · exact .inr ⟨h1, h2⟩
    · exact absurd h2 (hu l)
  cases v with
  | tp l =>
    simp only [V.ren, V.says, List.any_eq_true, List.mem_map] at h
    obtain ⟨u', ⟨u, hu, rfl⟩, h⟩ := h
    rcases one (hn l u rfl hu) h with h | ⟨h1, h2⟩
    · exact .inl h
    · exact .inr ⟨by simp only [V.says, List.any_eq_true]; exact ⟨u, hu, h1⟩, h2⟩
  | own b' k' off n =>
    have h' : ((V.own b' k' off n).ren1 b c).says1 k = true := by
      by_cases hh : b' = b
      · simpa [V.ren, V.ren1, V.blk?, hh, V.re, V.says] using h
      · simpa [V.ren, V.ren1, V.blk?, hh, V.says] using h
    exact one (u := .own b' k' off n) (fun _ h => by cases h) h'
  | ptr b' off =>
    have h' : ((V.ptr b' off).ren1 b c).says1 k = true := by
      by_cases hh : b' = b
      · simpa [V.ren, V.ren1, V.blk?, hh, V.re, V.says] using h
      · simpa [V.ren, V.ren1, V.blk?, hh, V.says] using h
    exact one (u := .ptr b' off) (fun _ h => by cases h) h'
  | d x => simp [V.ren, V.ren1, V.blk?, V.says, V.says1] at h
  | cp l i => simp [V.ren, V.ren1, V.blk?, V.says, V.says1] at h

theorem rv1_ren {O O' : Cells} (hK : Keep w O w' O') {b c : Nat} {v : V} {y : Value} (h : rv1 m w O v y) (hne : ∀ k, v.says1 k = true → k ≠ c) : rv1 (upd m c (m b)) w' O' (v.ren1 b c) y := by
  have h0 : rv1 (upd m c (m b)) w' O' v y := by
    cases v with
    | d x => exact rd_keep hK x y h
    | own k' k off n =>
      simp only [rv1, upd] at h ⊢
      rw [if_neg (hne k' (by simp [V.says1]))]
      exact h
    | ptr k' off =>
      simp only [rv1, upd] at h ⊢
      rw [if_neg (hne k' (by simp [V.says1]))]
      exact h
    | cp l i =>
      simp only [rv1] at h ⊢
      obtain ⟨b, off, h1, h2⟩ := h
      exact ⟨b, off, h1, rdC_keep hK b off l h2⟩
    | tp l => exact h.elim
  unfold V.ren1
  split
  · rename_i hb
    exact re_rv1 (O' := O') hb (show rv1 m w' O' v y from by
      cases v with
      | own k' k off n => exact h
      | ptr k' off => exact h
      | _ => cases hb) (by simp [upd])
  · exact h0
theorem rvL_ren {O O' : Cells} (hK : Keep w O w' O') {b c : Nat} : ∀ {l : List V} {ys : List Value}, rvL m w O l ys → (∀ v, v ∈ l → ∀ k, v.says1 k = true → k ≠ c) → rvL (upd m c (m b)) w' O' (l.map (V.ren1 b c)) ys
  | [], ys, h, _ => by simpa only [List.map_nil, rvL] using h
  | v :: r, ys, h, hne => by
    simp only [List.map_cons, rvL] at h ⊢
    obtain ⟨y, t, rfl, h1, h2⟩ := h
    exact ⟨y, t, rfl, rv1_ren hK h1 (hne v (by simp)), rvL_ren hK h2 fun u hu => hne u (by simp [hu])⟩
theorem rv_ren {O O' : Cells} (hK : Keep w O w' O') {b c : Nat} {v : V} {y : Value} (h : rv m w O v y) (hne : ∀ k, v.says k = true → k ≠ c) : rv (upd m c (m b)) w' O' (v.ren b c) y := by
  cases v with
  | tp l =>
    simp only [rv, V.ren] at h ⊢
    obtain ⟨ys, rfl, h⟩ := h
    refine ⟨ys, rfl, rvL_ren hK h fun v hv k hk => hne k ?_⟩
    simp only [V.says, List.any_eq_true]
    exact ⟨v, hv, hk⟩
  | own k' k off n => exact rv_of_rv1 (rv1_ren hK (v := .own k' k off n) h hne)
  | ptr k' off => exact rv_of_rv1 (rv1_ren hK (v := .ptr k' off) h hne)
  | d x => exact rv_of_rv1 (rv1_ren hK (v := .d x) h hne)
  | cp l i => exact rv_of_rv1 (rv1_ren hK (v := .cp l i) h hne)

/-- A block under another number. -/
theorem Rel.ren (R : Rel w0 X O0 m0 np nt m e μ a w) {b c : Nat} {B : Blk} {μ'' : Mem} (hB : aget μ b = some B) (hc : aget μ c = none) (hcS : ¬ Said μ c) (hcS' : Said μ'' c) (hcnt : cntOf μ ≤ cntOf μ'') (hbn : np ≤ b) (hcn : np ≤ c) (hb7 : b ≠ 1099511627775) (hc7 : c ≠ 1099511627775)
    (q1 : aget μ'' c = some B) (q2 : aget μ'' b = none) (q3 : ∀ k, k ≠ b → k ≠ c → k ≠ 1099511627775 → aget μ'' k = aget μ k)
    (hr : ∀ k, (refOf m μ k).le (refOf (upd m c (m b)) μ'' k)) (hH : Heap O0 m0 (upd m c (m b)) (max np nt) μ'') :
    Rel w0 X O0 m0 np nt (upd m c (m b)) (e.map fun p => (p.1, p.2.ren b c)) μ'' a w ∧ ∀ t v, aget e t = some v → ∀ k, (v.ren b c).says k = true → k = c ∨ (v.says k = true ∧ k ≠ b) := by
  have hbc : b ≠ c := by rintro rfl; rw [hB] at hc; cases hc
  have hnt := R.heap.ntb
  have hnest : ∀ t v, aget e t = some v → ∀ l u, v = .tp l → u ∈ l → ∀ l', u ≠ .tp l' := by
    intro t v h l u hl hu l' hu'
    subst hl; subst hu'
    have : V.says c (.tp l) = true := by simp only [V.says, List.any_eq_true]; exact ⟨_, hu, rfl⟩
    exact hcS (R.says t _ h c this)
  have hne : ∀ t v, aget e t = some v → ∀ k, v.says k = true → k ≠ c := by
    rintro t v h k hk rfl
    exact hcS (R.says t _ h k hk)
  -- which block stands behind a number
  have back : ∀ k C g s, aget μ'' k = some C → upd m c (m b) k = some (g, s) → ∃ k0, aget μ k0 = some C ∧ m k0 = some (g, s) ∧ (k = c ∧ k0 = b ∨ k ≠ c ∧ k ≠ b ∧ k0 = k) := by
    intro k C g s h1 h2
    simp only [upd] at h2
    split at h2
    · rename_i hk
      subst hk
      rw [q1] at h1; cases h1
      exact ⟨b, hB, h2, .inl ⟨rfl, rfl⟩⟩
    · rename_i hk
      have hkb : k ≠ b := by rintro rfl; rw [q2] at h1; cases h1
      have hk7 : k ≠ 1099511627775 := by rintro rfl; rw [R.heap.hcn] at h2; cases h2
      rw [q3 k hkb hk hk7] at h1
      exact ⟨k, h1, h2, .inr ⟨hk, hkb, rfl⟩⟩
  have fwd : ∀ k C g s, aget μ k = some C → m k = some (g, s) → ∃ k1, aget μ'' k1 = some C ∧ upd m c (m b) k1 = some (g, s) := by
    intro k C g s h1 h2
    by_cases hkb : k = b
    · subst hkb
      rw [hB] at h1; cases h1
      exact ⟨c, q1, by simp [upd, h2]⟩
    · have hkc : k ≠ c := by rintro rfl; rw [hc] at h1; cases h1
      have hk7 : k ≠ 1099511627775 := by rintro rfl; rw [R.heap.hcn] at h2; cases h2
      exact ⟨k, by rw [q3 k hkb hkc hk7]; exact h1, by simp [upd, hkc, h2]⟩
  have hown : ∀ g i, Ow O0 (upd m c (m b)) μ'' g i ↔ Ow O0 m μ g i := by
    intro g i
    constructor
    · rintro (h | ⟨k, C, s, h1, h2, h3⟩)
      · exact .inl h
      · obtain ⟨k0, r1, r2, _⟩ := back k C g s h1 h2
        exact .inr ⟨k0, C, s, r1, r2, h3⟩
    · rintro (h | ⟨k, C, s, h1, h2, h3⟩)
      · exact .inl h
      · obtain ⟨k1, r1, r2⟩ := fwd k C g s h1 h2
        exact .inr ⟨k1, C, s, r1, r2, h3⟩
  have hK : Keep w (Ow O0 m μ) w (Ow O0 (upd m c (m b)) μ'') := ⟨fun g i y h1 h2 => ⟨h1, fun h3 => h2 ((hown g i).1 h3)⟩, hr⟩
  have hsay : ∀ t v, aget e t = some v → ∀ k, (v.ren b c).says k = true → k = c ∨ (v.says k = true ∧ k ≠ b) := fun t v h k hk => ren_says (hnest t v h) hk
  refine ⟨⟨R.size, R.defers, R.srt.map _, fun t v h => ?_, fun t v h k hk => ?_, ⟨fun k C hC g s hm => ?_, fun k k' C C' g s s' h1 h2 h3 h4 => ?_⟩, R.frame, R.out, fun k C hk hC => ?_, fun k hk => ?_, hH⟩, hsay⟩
  · rw [aget_map, Option.map_eq_some_iff] at h
    obtain ⟨u, hu, rfl⟩ := h
    obtain ⟨y, h1, h2⟩ := R.env t u hu
    exact ⟨y, h1, rv_ren hK h2 (hne t u hu)⟩
  · rw [aget_map, Option.map_eq_some_iff] at h
    obtain ⟨u, hu, rfl⟩ := h
    rcases hsay t u hu k hk with rfl | ⟨h1, h2⟩
    · exact hcS'
    · exact (R.says t u hu k h1).mono (fun hk7 hs => by rw [q3 k h2 (hne t u hu k h1) (by omega)]; exact hs) hcnt
  · obtain ⟨k0, r1, r2, _⟩ := back k C g s hC hm
    obtain ⟨h1, h2, h3, arr, T, h4, h5, h6⟩ := R.blks.blk k0 C r1 g s r2
    exact ⟨h1, h2, h3, arr, T, h4, h5, rdB_keep hK h6⟩
  · obtain ⟨k0, r1, r2, r3⟩ := back k C g s h1 h3
    obtain ⟨k0', r1', r2', r3'⟩ := back k' C' g s' h2 h4
    have := R.blks.inj k0 k0' C C' g s s' r1 r1' r2 r2'
    rcases r3 with ⟨j1, j2⟩ | ⟨j1, j3, j2⟩ <;> rcases r3' with ⟨j1', j2'⟩ | ⟨j1', j3', j2'⟩
    · rw [j1, j1']
    · exact absurd (by rw [← j2', ← this, j2]) j3'
    · exact absurd (by rw [← j2, this, j2']) j3
    · rw [← j2, this, j2']
  · have hkb : k ≠ b := by omega
    have hkc : k ≠ c := by omega
    rw [q3 k hkb hkc (by omega)] at hC
    exact R.low k C hk hC
  · have hkc : k ≠ c := by omega
    simp only [upd, if_neg hkc]
    exact R.stay k hk

theorem cntOf_some {μ : Mem} {B : Blk} (h : aget μ 1099511627775 = some B) : cntOf μ = B.pub := by unfold cntOf; rw [h]

/-- A block of the call's own moves to the heap. -/
theorem Rel.prom (R : Rel w0 X O0 m0 np nt m e μ a w) {b : Nat} {e' : Env} {μ' : Mem} (h : Go.Proofs.R.prom b e μ = some (e', μ')) :
    ∃ m', Rel w0 X O0 m0 np nt m' e' μ' a w ∧ m' (cntOf μ) = m b ∧ (∀ k, k < 1099511627775 → m' k = m k) ∧ e' = e.map (fun p => (p.1, p.2.ren b (cntOf μ))) ∧ aget μ (cntOf μ) = none ∧ 1099511627776 ≤ cntOf μ ∧ (∃ B, aget μ b = some B ∧ b < 1099511627775 ∧ B.fix = false ∧ aget μ' (cntOf μ) = some B) ∧ cntOf μ' = cntOf μ + 1 ∧
      (∀ k, k ≠ b → k ≠ cntOf μ → k ≠ 1099511627775 → aget μ' k = aget μ k) ∧ (∀ t v, aget e t = some v → ∀ k, (v.ren b (cntOf μ)).says k = true → k = cntOf μ ∨ (v.says k = true ∧ k ≠ b)) := by
  unfold Go.Proofs.R.prom at h
  simp only [Option.bind_eq_some_iff] at h
  obtain ⟨B, hB, h⟩ := h
  split at h
  case isFalse => cases h
  rename_i hc
  obtain ⟨hb, hfix, hpub⟩ := hc
  simp only [Option.some.injEq, Prod.mk.injEq] at h
  obtain ⟨rfl, rfl⟩ := h
  have hcl : 1099511627776 ≤ cntOf μ := Nat.le_trans O0.hc0 R.heap.cnt0
  have hcnone : aget μ (cntOf μ) = none := by
    cases h : aget μ (cntOf μ) with
    | none => rfl
    | some C => have := R.heap.hlt _ hcl (by rw [h]; rfl); omega
  have hnb : np ≤ b := by
    by_cases hlt : b < np
    · have := R.low b B hlt hB; rw [hfix] at this; cases this
    · omega
  have hnt := R.heap.ntb
  have q3 : ∀ k, k ≠ b → k ≠ cntOf μ → k ≠ 1099511627775 → aget (aput 1099511627775 ⟨cntOf μ + 1, true, []⟩ (aput (cntOf μ) B (adel b μ))) k = aget μ k := by
    intro k h1 h2 h3
    rw [aget_aput_ne h3, aget_aput_ne h2, aget_adel_ne h1]
  have q1 : aget (aput 1099511627775 ⟨cntOf μ + 1, true, []⟩ (aput (cntOf μ) B (adel b μ))) (cntOf μ) = some B := by
    rw [aget_aput_ne (by omega), aget_aput_same]
  have q7 : cntOf (aput 1099511627775 ⟨cntOf μ + 1, true, []⟩ (aput (cntOf μ) B (adel b μ))) = cntOf μ + 1 := cntOf_some (aget_aput_same _ _ _)
  have hm : ∀ k, k ≠ cntOf μ → upd m (cntOf μ) (m b) k = m k := fun k hk => by simp [upd, hk]
  obtain ⟨R', hsay⟩ := R.ren (c := cntOf μ) (μ'' := aput 1099511627775 ⟨cntOf μ + 1, true, []⟩ (aput (cntOf μ) B (adel b μ))) hB hcnone (by rintro (⟨h, _⟩ | ⟨_, h⟩) <;> omega) (.inr ⟨hcl, by rw [q7]; omega⟩) (by rw [q7]; omega) hnb (by omega) (by omega) (by omega) q1
    (by rw [aget_aput_ne (by omega), aget_aput_ne (by omega), aget_adel_same]) q3
    (fun k => by
      unfold refOf
      rw [q7]
      by_cases hk : k < 1099511627776
      · rw [if_pos (.inl hk)]; trivial
      · by_cases hk2 : cntOf μ ≤ k
        · rw [if_pos (.inr hk2)]; trivial
        · rw [if_neg (by omega), if_neg (c := k < 1099511627776 ∨ cntOf μ + 1 ≤ k) (by omega), q3 k (by omega) (by omega) (by omega), hm k (by omega)]
          exact RS.le_refl _)
    ⟨hnt, by rw [q7]; exact Nat.le_succ_of_le R.heap.cnt0, fun k hk hs => by
        rw [q7]
        by_cases hkc : k = cntOf μ
        · omega
        · rw [q3 k (by omega) hkc (by omega)] at hs
          have := R.heap.hlt k hk hs; omega,
      fun k hk hlt => by
        have hkc : k ≠ cntOf μ := by have := R.heap.cnt0; omega
        rw [q3 k (by omega) hkc (by omega), hm k hkc]
        exact R.heap.hst k hk hlt,
      by rw [hm _ (by omega)]; exact R.heap.hcn,
      fun k C hk hC => by
        by_cases hkc : k = cntOf μ
        · subst hkc; rw [q1] at hC; cases hC; exact ⟨hpub, hfix⟩
        · rw [q3 k (by omega) hkc (by omega)] at hC
          exact R.heap.hpf k C hk hC⟩
  exact ⟨_, R', by simp [upd], fun k hk => hm k (by omega), rfl, hcnone, hcl, ⟨B, hB, hb, hfix, q1⟩, q7, q3, hsay⟩

/-- What was laid ahead stays. -/
def Hold (m m' : Nat → Option (Nat × Nat)) (e e' : Env) (μ μ' : Mem) : Prop :=
  ∀ id, id < 1099511627775 → (∀ t u, aget e t = some u → u.says id = false) → (∃ B, aget μ id = some B ∧ B.fix = true) → m' id = m id ∧ aget μ' id = aget μ id ∧ ∀ t u, aget e' t = some u → u.says id = false
theorem Hold.refl (m : Nat → Option (Nat × Nat)) (e : Env) (μ : Mem) : Hold m m e e μ μ := fun _ _ h _ => ⟨rfl, rfl, h⟩
theorem Hold.trans {m m' m'' : Nat → Option (Nat × Nat)} {e e' e'' : Env} {μ μ' μ'' : Mem} (h : Hold m m' e e' μ μ') (h' : Hold m' m'' e' e'' μ' μ'') : Hold m m'' e e'' μ μ'' := fun id h1 h2 h3 => by
  obtain ⟨a1, a2, a3⟩ := h id h1 h2 h3
  obtain ⟨b1, b2, b3⟩ := h' id h1 a3 (by rw [a2]; exact h3)
  exact ⟨b1.trans a1, b2.trans a2, b3⟩
theorem Rel.promH (R : Rel w0 X O0 m0 np nt m e μ a w) {b : Nat} {e' : Env} {μ' : Mem} (h : Go.Proofs.R.prom b e μ = some (e', μ')) :
    ∃ m', Rel w0 X O0 m0 np nt m' e' μ' a w ∧ Hold m m' e e' μ μ' := by
  obtain ⟨m', R', _, h2, rfl, h4, h4', ⟨B, h5, h6, h7, _⟩, _, h8, h9⟩ := R.prom h
  refine ⟨m', R', fun id h10 h11 h12 => ⟨h2 id h10, ?_, fun t u ht => ?_⟩⟩
  · obtain ⟨C, hC, hf⟩ := h12
    have : id ≠ b := by rintro rfl; rw [h5] at hC; cases hC; rw [h7] at hf; cases hf
    exact h8 id this (by omega) (by omega)
  · rw [aget_map, Option.map_eq_some_iff] at ht
    obtain ⟨v, hv, rfl⟩ := ht
    cases hs : (v.ren b (cntOf μ)).says id with
    | false => rfl
    | true =>
      rcases h9 t v hv id hs with h | ⟨h, _⟩
      · omega
      · rw [h11 t v hv] at h; cases h
/-! What lies on the heap becomes data. -/
theorem adels_get : ∀ (S : List Nat) (μ : Mem) (k : Nat), aget (adels S μ) k = if k ∈ S then none else aget μ k
  | [], μ, k => by simp [adels]
  | c :: r, μ, k => by
    rw [adels, adels_get r, aget_adel]
    by_cases h1 : k ∈ r
    · simp [h1]
    · by_cases h2 : k = c <;> simp [h1, h2]
theorem adels_cnt {S : List Nat} {μ : Mem} (hS : ∀ c ∈ S, 1099511627776 ≤ c) : cntOf (adels S μ) = cntOf μ :=
  cntOf_low (by rw [adels_get, if_neg (fun h => by have := hS _ h; omega)])
theorem heapRefs_ge : ∀ {l : List D} {c : Nat}, c ∈ heapRefs l → 1099511627776 ≤ c
  | [], c, h => by simp [heapRefs] at h
  | d :: r, c, h => by
    cases d with
    | ref x k o n =>
      simp only [heapRefs] at h
      split at h
      · rcases List.mem_cons.1 h with rfl | h
        · assumption
        · exact heapRefs_ge h
      · exact heapRefs_ge h
    | _ => exact heapRefs_ge (l := r) (by simpa only [heapRefs] using h)
theorem heapRefs_of : ∀ {l : List D} {c k o n : Nat}, D.ref c k o n ∈ l → 1099511627776 ≤ c → c ∈ heapRefs l
  | [], c, k, o, n, h, _ => by simp at h
  | d :: r, c, k, o, n, h, hc => by
    rcases List.mem_cons.1 h with rfl | h
    · simp only [heapRefs, if_pos hc, List.mem_cons, true_or]
    · have ih := heapRefs_of h hc
      cases d with
      | ref x k o n =>
        simp only [heapRefs]
        split
        · exact List.mem_cons_of_mem _ ih
        · exact ih
      | _ => simpa only [heapRefs] using ih
theorem Rel.frzG (R : Rel w0 X O0 m0 np nt m e μ a w) {S : List Nat} (hS : ∀ c ∈ S, 1099511627776 ≤ c) :
    Keep w (Ow O0 m μ) w (Ow O0 m (adels S μ)) ∧ Rel w0 X O0 m0 np nt m e (adels S μ) a w ∧ ∀ c B g s, c ∈ S → aget μ c = some B → m c = some (g, s) → ∀ i, ¬ Ow O0 m (adels S μ) g i := by
  have sub : ∀ {b B}, aget (adels S μ) b = some B → b ∉ S ∧ aget μ b = some B := fun {b B} h => by
    rw [adels_get] at h
    split at h
    · cases h
    · exact ⟨by assumption, h⟩
  have hc := adels_cnt (μ := μ) hS
  have hK : Keep w (Ow O0 m μ) w (Ow O0 m (adels S μ)) := by
    refine ⟨fun b off y h hO => ⟨h, fun hO' => hO ?_⟩, fun c => ?_⟩
    · rcases hO' with hO' | ⟨c, B, s, h1, h2, h3⟩
      · exact .inl hO'
      · exact .inr ⟨c, B, s, (sub h1).2, h2, h3⟩
    · show (refOf m μ c).le (refOf m (adels S μ) c)
      unfold refOf
      rw [hc]
      by_cases h1 : c < 1099511627776 ∨ cntOf μ ≤ c
      · rw [if_pos h1, if_pos h1]; trivial
      · rw [if_neg h1, if_neg h1]
        by_cases h2 : (aget μ c).isSome = true
        · rw [if_pos h2]
          by_cases h3 : (aget (adels S μ) c).isSome = true
          · rw [if_pos h3]; exact .inl rfl
          · rw [if_neg h3]; exact .inr rfl
        · rw [if_neg h2]
          have h3 : ¬ (aget (adels S μ) c).isSome = true := by
            rw [adels_get]; split
            · simp
            · exact h2
          rw [if_neg h3]; exact rfl
  have hsaid : ∀ b, Said μ b → Said (adels S μ) b := fun b h => h.mono (fun h1 h2 => by rw [adels_get, if_neg (fun hm => by have := hS _ hm; omega)]; exact h2) (by rw [hc]; exact Nat.le_refl _)
  refine ⟨hK, ⟨R.size, R.defers, R.srt, fun t v h => ?_, fun t v h b hb => hsaid b (R.says t v h b hb), ?_, R.frame, R.out, fun b B hb h => R.low b B hb (sub h).2, R.stay, ?_⟩, ?_⟩
  · obtain ⟨y, h1, h2⟩ := R.env t v h
    exact ⟨y, h1, rv_keep hK (fun _ _ => rfl) h2⟩
  · refine ⟨fun b B h g s hm => ?_, fun b b' B B' g s s' h h' => R.blks.inj b b' B B' g s s' (sub h).2 (sub h').2⟩
    obtain ⟨h1, h2, h3, arr, T, h4, h5, h6⟩ := R.blks.blk b B (sub h).2 g s hm
    refine ⟨h1, h2, h3, arr, T, h4, h5, fun i d hd => ?_⟩
    obtain ⟨q1, y, q2, q3⟩ := h6 i d hd
    exact ⟨q1, y, q2, rd_keep hK _ _ q3⟩
  · refine ⟨R.heap.ntb, by rw [hc]; exact R.heap.cnt0, fun b hb h => ?_, fun b hb hlt => ⟨(R.heap.hst b hb hlt).1, fun h => ?_⟩, R.heap.hcn, fun b B hb h => R.heap.hpf b B hb (sub h).2⟩
    · rw [hc]
      obtain ⟨B, hB⟩ := Option.isSome_iff_exists.1 h
      exact R.heap.hlt b hb (by rw [(sub hB).2]; rfl)
    · obtain ⟨B, hB⟩ := Option.isSome_iff_exists.1 h
      exact (R.heap.hst b hb hlt).2 (by rw [(sub hB).2]; rfl)
  · intro c B g s hcS hB hm i hO
    rcases hO with hO | ⟨b, B', s', h1, h2, h3⟩
    · obtain ⟨o1, o2⟩ := R.out g i hO
      obtain ⟨h1, _⟩ := R.blks.blk c B hB g s hm
      rcases h1 with h1 | h1
      · omega
      · exact o2 h1
    · obtain ⟨q1, q2⟩ := sub h1
      have := R.blks.inj b c B' B g s' s q2 hB h2 hm
      subst this
      exact q1 hcS
theorem un_rdS (R : Rel w0 X O0 m0 np nt m e μ a w) {S : List Nat} (hS : ∀ c ∈ S, 1099511627776 ≤ c) {d : D} {y : Value} (h : rd w (Ow O0 m μ) d y) (ho : d.one = true) (hn : nref (un μ d) = true) (hd : ∀ c k o n, d = .ref c k o n → 1099511627776 ≤ c → c ∈ S) : (un μ d).one = true ∧ rd w (Ow O0 m (adels S μ)) (un μ d) y := by
  obtain ⟨hK, _, hnew⟩ := R.frzG hS
  cases d with
  | ref c k off n =>
    simp only [un] at hn ⊢
    simp only [rd] at h
    cases hc : aget μ c with
    | none => simp only [hc, nref] at hn; cases hn
    | some B =>
      simp only [hc] at hn ⊢
      split at hn
      case isFalse => simp [nref] at hn
      rename_i hle
      rw [if_pos hle]
      refine ⟨rfl, ?_⟩
      have hlive : 1099511627776 ≤ c ∧ onBlk (m c) k off n y := by
        change onRef (refOf m μ c) k off n y at h
        unfold refOf at h
        split at h
        · exact h.elim
        · rename_i hlt
          rw [if_pos (by rw [hc]; rfl)] at h; exact ⟨by omega, h⟩
      refine onBlk_sl hlive.2 (by simp; omega) fun g s hm => ?_
      obtain ⟨h4, h5, h6, arr, T, h7, h8, h9⟩ := R.blks.blk c B hc g s hm
      refine At.rdC (fun i d hd => ?_) fun i hi => hnew c B g s (hd c k off n rfl hlive.1) hc hm _
      have h10 := ((At.of_rdB h9 h7).drop off).take (n * k) i d hd
      rw [Nat.zero_add] at h10
      obtain ⟨q1, z, q2, q3⟩ := h10
      exact ⟨q1, z, q2, rd_keep hK d z q3⟩
  | _ => simp only [un] at hn ⊢; exact ⟨ho, rd_keep hK _ _ h⟩
theorem Rel.frz (R : Rel w0 X O0 m0 np nt m e μ a w) {t : Nat} {e' : Env} {μ' : Mem} (h : Go.Proofs.R.frz t e μ = some (e', μ')) :
    Rel w0 X O0 m0 np nt m e' μ' a w ∧ Hold m m e e' μ μ' := by
  simp only [Go.Proofs.R.frz, Option.bind_eq_some_iff] at h
  obtain ⟨v, hv, h⟩ := h
  split at h
  case h_2 => cases h
  rename_i b k off n
  split at h
  case isFalse => cases h
  rename_i hb
  simp only [Option.bind_eq_some_iff] at h
  obtain ⟨B, hB, d, hd, h⟩ := h
  split at h
  case isFalse => cases h
  rename_i hn
  simp only [Option.some.injEq, Prod.mk.injEq] at h
  obtain ⟨rfl, rfl⟩ := h
  have hS : ∀ c ∈ b :: heapRefs B.cells, 1099511627776 ≤ c := fun c hc => by
    rcases List.mem_cons.1 hc with rfl | hc
    · exact hb
    · exact heapRefs_ge hc
  obtain ⟨hK, R', hnew⟩ := R.frzG hS
  obtain ⟨y, hy, hr⟩ := R.env t _ hv
  have hrd : rd w (Ow O0 m (adels (b :: heapRefs B.cells) μ)) d y := by
    simp only [asDD, hB] at hd
    split at hd
    case isFalse => cases hd
    rename_i hle
    cases hd
    have hbl : onBlk (m b) k off n y := hr
    refine onBlk_sl hbl (by simp; omega) fun g s hm => ?_
    obtain ⟨h4, h5, h6, arr, T, h7, h8, h9⟩ := R.blks.blk b B hB g s hm
    refine At.rdC (fun i d hd => ?_) fun i hi => hnew b B g s (by simp) hB hm _
    have hnn := nrefL_get (by simpa only [nref] using hn) i d hd
    rw [List.getElem?_map, Option.map_eq_some_iff] at hd
    obtain ⟨d0, hd0, rfl⟩ := hd
    have h10 := ((At.of_rdB h9 h7).drop off).take (n * k) i d0 hd0
    rw [Nat.zero_add] at h10
    obtain ⟨q1, z, q2, q3⟩ := h10
    obtain ⟨q4, q5⟩ := un_rdS R hS q3 q1 hnn (fun c k' o' n' e hc => List.mem_cons_of_mem _ (heapRefs_of (k := k') (o := o') (n := n') (by
      rw [← e]
      exact List.mem_of_mem_drop (List.mem_of_mem_take (List.mem_of_getElem? hd0))) hc))
    exact ⟨q4, z, q2, q5⟩
  refine ⟨⟨R'.size, R'.defers, R'.srt.aput, fun t' v' h' => ?_, fun t' v' h' b' hb' => ?_, R'.blks, R'.frame, R'.out, R'.low, R'.stay, R'.heap⟩, fun id h1 h2 h3 => ⟨rfl, by rw [adels_get, if_neg (fun hm => by have := hS _ hm; omega)], fun t' u h' => ?_⟩⟩
  · rw [aget_aput] at h'
    split at h'
    · rename_i ht; subst ht; cases h'; exact ⟨y, hy, hrd⟩
    · exact R'.env t' v' h'
  · rw [aget_aput] at h'
    split at h'
    · cases h'; simp [V.says, V.says1] at hb'
    · exact R'.says t' v' h' b' hb'
  · rw [aget_aput] at h'
    split at h'
    · cases h'; simp [V.says, V.says1]
    · exact h2 t' u h'
theorem Rel.ups : ∀ {ts : List Nat} {m : Nat → Option (Nat × Nat)} {e e' : Env} {μ μ' : Mem} (_ : Rel w0 X O0 m0 np nt m e μ a w), Go.Proofs.R.ups ts e μ = some (e', μ') → ∃ m', Rel w0 X O0 m0 np nt m' e' μ' a w ∧ Hold m m' e e' μ μ'
  | [], m, e, e', μ, μ', R, h => by
    simp only [Go.Proofs.R.ups, Option.some.injEq, Prod.mk.injEq] at h
    obtain ⟨rfl, rfl⟩ := h
    exact ⟨m, R, Hold.refl _ _ _⟩
  | t :: r, m, e, e', μ, μ', R, h => by
    simp only [Go.Proofs.R.ups] at h
    split at h
    · simp only [Option.bind_eq_some_iff] at h
      obtain ⟨⟨e1, μ1⟩, h1, h⟩ := h
      obtain ⟨R1, H1⟩ := R.frz h1
      obtain ⟨m2, R2, H2⟩ := Rel.ups R1 h
      exact ⟨m2, R2, H1.trans H2⟩
    split at h
    · split at h
      · exact Rel.ups R h
      · simp only [Option.bind_eq_some_iff] at h
        obtain ⟨⟨e1, μ1⟩, h1, h⟩ := h
        obtain ⟨m1, R1, H1⟩ := R.promH h1
        obtain ⟨m2, R2, H2⟩ := Rel.ups R1 h
        exact ⟨m2, R2, H1.trans H2⟩
    · exact Rel.ups R h
    · cases h

/-! Appending to a block of the heap, and to nil. -/
theorem aput_aput {α : Type} (t : Nat) (x y : α) : ∀ l, aput t x (aput t y l) = aput t x l
  | [] => by simp [aput]
  | (s, z) :: r => by
    by_cases h : t < s
    · simp only [aput, if_pos h]
      rw [if_neg (Nat.lt_irrefl t)]; simp
    · by_cases h2 : t = s
      · subst h2
        simp [aput]
      · simp only [aput, if_neg h, if_neg h2]
        rw [aput_aput t x y r]
theorem ren_not {v : V} {b c : Nat} (h : v.says b = false) : v.ren b c = v := by
  have one : ∀ {u : V}, u.says1 b = false → u.ren1 b c = u := by
    intro u h
    unfold V.ren1
    rw [if_neg]
    intro hb
    cases u <;> simp_all [V.blk?, V.says1]
  cases v with
  | tp l =>
    simp only [V.ren]
    congr 1
    simp only [V.says, List.any_eq_false] at h
    have : ∀ {l : List V}, (∀ u, u ∈ l → ¬ V.says1 b u = true) → l.map (V.ren1 b c) = l := by
      intro l h
      induction l with
      | nil => rfl
      | cons u r ih =>
        simp only [List.map_cons]
        rw [one (by simpa using h u (by simp)), ih fun x hx => h x (by simp [hx])]
    exact this h
  | own b' k off n => exact one (u := .own b' k off n) h
  | ptr b' off => exact one (u := .ptr b' off) h
  | d x => rfl
  | cp l i => rfl
theorem drop_fresh {b : Nat} (h : ∀ t v, (t, v) ∈ e → v.says b = false) : drop b e = e := by
  unfold drop
  rw [List.filter_eq_self]
  rintro ⟨t, v⟩ hp
  simp [h t v hp]

variable {ty : TypeId} {pos : String} {after : Array Edge} {gd : Option (Nat × Bool)} {d : Nat}

/-- A block of the heap becomes one of the call's own; its slices are told no more. -/
theorem Rel.down (R : Rel w0 X O0 m0 np nt m e μ a w) (hd : np ≤ d) (hdn : d < nt) {b : Nat} {B : Blk} (hB : aget μ b = some B) (hbh : 1099511627776 ≤ b) (hf : aget μ d = none) :
    Rel w0 X O0 m0 np nt (upd m d (m b)) e (aput d B (adel b μ)) a w ∧ Keep w (Ow O0 m μ) w (Ow O0 (upd m d (m b)) (aput d B (adel b μ))) := by
  have hnt := R.heap.ntb
  have hm : ∀ j, j ≠ d → upd m d (m b) j = m j := fun j hj => by simp [upd, hj]
  have q3 : ∀ j, j ≠ b → j ≠ d → aget (aput d B (adel b μ)) j = aget μ j := fun j h1 h2 => by rw [aget_aput_ne h2, aget_adel_ne h1]
  have q2 : aget (aput d B (adel b μ)) b = none := by rw [aget_aput_ne (by omega), aget_adel_same]
  have q7 : cntOf (aput d B (adel b μ)) = cntOf μ := cntOf_low (q3 _ (by omega) (by omega))
  have hr : ∀ j, (refOf m μ j).le (refOf (upd m d (m b)) (aput d B (adel b μ)) j) := fun j => by
    unfold refOf
    rw [q7]
    by_cases hj : j < 1099511627776 ∨ cntOf μ ≤ j
    · rw [if_pos hj]; trivial
    · rw [if_neg hj, if_neg hj]
      by_cases hjb : j = b
      · subst hjb
        rw [q2, if_pos (by rw [hB]; rfl)]
        exact .inr rfl
      · rw [q3 j hjb (by omega), hm j (by omega)]
        exact RS.le_refl _
  have hH : Heap O0 m0 (upd m d (m b)) (max np nt) (aput d B (adel b μ)) := by
    refine ⟨hnt, by rw [q7]; exact R.heap.cnt0, fun j hj hs => ?_, fun j hj hlt => ?_, by rw [hm _ (by omega)]; exact R.heap.hcn, fun j C hj hC => ?_⟩
    · by_cases hjb : j = b
      · subst hjb; rw [q2] at hs; cases hs
      · rw [q3 j hjb (by omega)] at hs
        rw [q7]; exact R.heap.hlt j hj hs
    · obtain ⟨h1, h2⟩ := R.heap.hst j hj hlt
      refine ⟨by rw [hm j (by omega)]; exact h1, fun hs => ?_⟩
      by_cases hjb : j = b
      · subst hjb; rw [q2] at hs; cases hs
      · rw [q3 j hjb (by omega)] at hs
        exact h2 hs
    · by_cases hjb : j = b
      · subst hjb; rw [q2] at hC; cases hC
      · rw [q3 j hjb (by omega)] at hC
        exact R.heap.hpf j C hj hC
  have hne : ∀ t v, aget e t = some v → ∀ k, v.says k = true → k ≠ d := by
    rintro t v h k hk rfl
    exact Said.not (by omega) hf (R.says t v h k hk)
  have back : ∀ k C g s, aget (aput d B (adel b μ)) k = some C → upd m d (m b) k = some (g, s) → ∃ k0, aget μ k0 = some C ∧ m k0 = some (g, s) ∧ (k = d ∧ k0 = b ∨ k ≠ d ∧ k ≠ b ∧ k0 = k) := by
    intro k C g s h1 h2
    by_cases hk : k = d
    · subst hk
      rw [aget_aput_same] at h1; cases h1
      exact ⟨b, hB, by simpa [upd] using h2, .inl ⟨rfl, rfl⟩⟩
    · have hkb : k ≠ b := by rintro rfl; rw [q2] at h1; cases h1
      rw [q3 k hkb hk] at h1
      rw [hm k hk] at h2
      exact ⟨k, h1, h2, .inr ⟨hk, hkb, rfl⟩⟩
  have hK : Keep w (Ow O0 m μ) w (Ow O0 (upd m d (m b)) (aput d B (adel b μ))) := by
    refine ⟨fun g j y h1 h2 => ⟨h1, ?_⟩, hr⟩
    rintro (h | ⟨c, C, s, h3, h4, h5⟩)
    · exact h2 (.inl h)
    · obtain ⟨k0, r1, r2, _⟩ := back c C g s h3 h4
      exact h2 (.inr ⟨k0, C, s, r1, r2, h5⟩)
  refine ⟨⟨R.size, R.defers, R.srt, fun t v h => ?_, fun t v h k hk => ?_, ⟨fun k C hC g s hm' => ?_, fun k k' C C' g s s' h1 h2 h3 h4 => ?_⟩, R.frame, R.out, fun k C hk hC => ?_, fun k hk => ?_, hH⟩, hK⟩
  · obtain ⟨y, h1, h2⟩ := R.env t v h
    exact ⟨y, h1, rv_keep hK (fun k hk => hm k (hne t v h k hk)) h2⟩
  · exact (R.says t v h k hk).mono (fun hk7 hs => by rw [q3 k (by omega) (hne t v h k hk)]; exact hs) (by rw [q7]; exact Nat.le_refl _)
  · obtain ⟨k0, r1, r2, _⟩ := back k C g s hC hm'
    obtain ⟨h1, h2, h3, arr, T, h4, h5, h6⟩ := R.blks.blk k0 C r1 g s r2
    exact ⟨h1, h2, h3, arr, T, h4, h5, rdB_keep hK h6⟩
  · obtain ⟨k0, r1, r2, r3⟩ := back k C g s h1 h3
    obtain ⟨k0', r1', r2', r3'⟩ := back k' C' g s' h2 h4
    have := R.blks.inj k0 k0' C C' g s s' r1 r1' r2 r2'
    rcases r3 with ⟨j1, j2⟩ | ⟨j1, j3, j2⟩ <;> rcases r3' with ⟨j1', j2'⟩ | ⟨j1', j3', j2'⟩
    · rw [j1, j1']
    · exact absurd (by rw [← j2', ← this, j2]) j3'
    · exact absurd (by rw [← j2, this, j2']) j3
    · rw [← j2, this, j2']
  · rw [q3 k (by omega) (by omega)] at hC
    exact R.low k C hk hC
  · rw [hm k (by omega)]
    exact R.stay k hk

theorem adel_none {α : Type} {t : Nat} : ∀ {l : List (Nat × α)}, aget l t = none → adel t l = l
  | [], _ => rfl
  | (s, x) :: r, h => by
    simp only [aget] at h
    split at h
    · cases h
    · rename_i hs
      simp only [adel, if_neg hs]
      rw [adel_none h]
theorem adel_aput {α : Type} {t : Nat} {x : α} : ∀ {l : List (Nat × α)}, aget l t = none → adel t (aput t x l) = l
  | [], _ => by simp [aput, adel]
  | (s, y) :: r, h => by
    have h' := h
    simp only [aget] at h
    split at h
    · cases h
    · rename_i hs
      simp only [aput]
      split
      · rename_i hlt
        simp only [adel, if_true, if_neg hs]
        rw [adel_none h]
      · rw [if_neg (Ne.symm hs)]
        simp only [adel, if_neg hs]
        rw [adel_aput h]

theorem napp_does (R : Rel w0 X O0 m0 np nt m e μ a w) (hd : np ≤ d) (hdn : d < nt) {t u el : TypeId} {s x : Operand} {i : TypeInfo} {k k'' : Nat} {l : List D}
    (ht : P.underlying t = some (.slice el)) (hu : P.underlying u = some (.slice el)) (hi : P.info? el = some i) (hk : i.size = k) (hb0 : i.bytes ≠ 0) {z : List D} (hz0 : zeroD P el = some z) (hrs : a.eval s = .slice none 0 0) (hrx : rd w (Ow O0 m μ) (.sl k'' l) (a.eval x))
    (hk0 : k ≠ 0) (hk'' : k'' = k ∨ l = []) (hf : aget μ d = none) (hby : l.length * i.bytes ≤ k * 2 ^ 46) :
    Does P w0 X O0 m0 np nt m e μ a w ⟨some d, .call { callee := .builtin .append, args := #[s, x], argTypes := #[t, u] }, ty, pos, after, gd⟩ none (.own d k 0 (l.length / k)) e (aput d ⟨0, false, l⟩ μ) := by
  have hnt := R.heap.ntb
  have R' := R.nil (id := d) (B := ⟨0, false, []⟩) hd (by omega) hf
  have hsd : ∀ t v, (t, v) ∈ e → v.says d = false := by
    intro t v h
    cases hs : v.says d with
    | false => rfl
    | true => exact absurd (R.says t v (R.srt.aget h) d hs) (Said.not (by omega) hf)
  have hK : Keep w (Ow O0 m μ) w (Ow O0 (upd m d none) (aput d ⟨0, false, []⟩ μ)) := by
    refine ⟨?_, fun c => by show (refOf m μ c).le (refOf _ _ c); rw [refOf_low (upd_low (by omega))]; exact RS.le_refl _⟩
    intro b off y h hO
    refine ⟨h, fun hO' => hO ?_⟩
    rcases hO' with hO' | ⟨c, Bc, s, h1, h2, h3⟩
    · exact .inl hO'
    · by_cases hc : c = d
      · subst hc; simp [upd] at h2
      · rw [aget_aput_ne hc] at h1
        simp only [upd, if_neg hc] at h2
        exact .inr ⟨c, Bc, s, h1, h2, h3⟩
  have := app_does (ty := ty) (pos := pos) (after := after) (gd := gd) (d := d) (b := d) (n := 0) (k := k) R' ht hu hi hk hb0 hz0 (by simp only [rv, rv1, upd, if_true]; exact ⟨hk0, hrs, by simp⟩) (rd_keep hK _ _ hrx) (aget_aput_same _ _ _) hk'' (by simp) (by simp) rfl (by omega) (by simpa using hby)
  rw [drop_fresh hsd, aput_aput] at this
  simp only [Nat.zero_mul, List.take_nil, List.nil_append, Nat.zero_add] at this
  obtain ⟨y, w', m', h1, h2, h3, h4, h5⟩ := this
  refine ⟨y, w', m', h1, h2, h3, h4, fun id i1 i2 i3 i4 => ?_⟩
  obtain ⟨C, hC, hCf⟩ := i4
  have hid : id ≠ d := by rintro rfl; rw [hf] at hC; cases hC
  obtain ⟨j1, j2, j3, j4⟩ := h5 id i1 i2 i3 ⟨C, by rw [aget_aput_ne hid]; exact hC, hCf⟩
  exact ⟨j1.trans (by simp [upd, hid]), j2.trans (aget_aput_ne hid _ _), j3, j4⟩

/-- An appended block moves to the heap. -/
theorem app_up {o : Oper} {k n : Nat} {B' : Blk} {μ0 μ1 : Mem} {m1 : Nat → Option (Nat × Nat)} (hd : aget μ0 d = none) (hdn : d < 1099511627775) (hB' : B'.fix = false ∧ B'.pub = 0) (hcnt : cntOf μ0 = cntOf μ)
    (hse : ∀ t v, (t, v) ∈ e → v.says d = false) (hal : ∀ id, id < 1099511627775 → id ≠ d → aget μ0 id = aget μ id ∧ aget μ1 id = aget μ id ∧ m1 id = m id)
    (h : Does P w0 X O0 m0 np nt m1 e μ1 a w o none (.own d k 0 n) e (aput d B' μ0)) (hfd : aget μ d = none) :
    Does P w0 X O0 m0 np nt m e μ a w o none (.own (cntOf μ) k 0 n) e (hput B' μ0) := by
  obtain ⟨y, w', m', h1, h2, h3, h4, h5⟩ := h
  have hcd : cntOf (aput d B' μ0) = cntOf μ0 := cntOf_low (aget_aput_ne (by omega) _ _)
  have hp : Go.Proofs.R.prom d e (aput d B' μ0) = some (e, hput B' μ0) := by
    unfold Go.Proofs.R.prom
    rw [aget_aput_same]
    simp only [Option.bind_some]
    rw [if_pos ⟨hdn, hB'.1, hB'.2⟩, adel_aput hd, hcd]
    simp only [Option.some.injEq, Prod.mk.injEq]
    refine ⟨?_, rfl⟩
    have : ∀ (l : Env), (∀ t v, (t, v) ∈ l → v.says d = false) → l.map (fun p => (p.1, p.2.ren d (cntOf μ0))) = l := by
      intro l hl
      induction l with
      | nil => rfl
      | cons q r ih =>
        obtain ⟨t, v⟩ := q
        simp only [List.map_cons]
        rw [ren_not (hl t v (by simp)), ih fun t v h => hl t v (by simp [h])]
    exact this e hse
  obtain ⟨m2, R2, r1, r2, r3, r4, r5, ⟨B, r6, r7, r8, r9⟩, r10, r11, r12⟩ := h2.prom hp
  rw [hcd, hcnt] at r1 r4 r9 r10 r11
  have hcl : 1099511627776 ≤ cntOf μ := by rw [← hcnt, ← hcd]; exact r5
  refine ⟨y, w', m2, h1, R2, ?_, fun b hb => ?_, fun id i1 i2 i3 i4 => ?_⟩
  · simp only [rv, rv1] at h3 ⊢
    rw [r1]
    exact h3
  · have := says_own hb
    subst this
    exact .inr ⟨hcl, by rw [r10]; omega⟩
  · obtain ⟨C, hC, hCf⟩ := i4
    have hid : id ≠ d := by rintro rfl; rw [hfd] at hC; cases hC
    obtain ⟨k1, k2, k3⟩ := hal id i1 hid
    obtain ⟨j1, j2, j3, j4⟩ := h5 id i1 i2 i3 ⟨C, by rw [k2]; exact hC, hCf⟩
    refine ⟨by rw [r2 id i1, j1, k3], ?_, ?_, i3⟩
    · rw [r11 id hid (by omega) (by omega), aget_aput_ne hid, k1]
    · cases hh : (V.own (cntOf μ) k 0 n).says id with
      | false => rfl
      | true => have := says_own hh; omega

theorem Rel.no_says (R : Rel w0 X O0 m0 np nt m e μ a w) (hdn : d < 1099511627775) (hf : aget μ d = none) : ∀ t v, (t, v) ∈ e → v.says d = false := by
  intro t v h
  cases hs : v.says d with
  | false => rfl
  | true => exact absurd (R.says t v (R.srt.aget h) d hs) (Said.not hdn hf)

theorem happ_does (R : Rel w0 X O0 m0 np nt m e μ a w) (hd : np ≤ d) (hdn : d < nt) {t u el : TypeId} {s x : Operand} {i : TypeInfo} {b k n k'' : Nat} {l : List D} {B : Blk}
    (ht : P.underlying t = some (.slice el)) (hu : P.underlying u = some (.slice el)) (hi : P.info? el = some i) (hk : i.size = k) (hb0 : i.bytes ≠ 0) {z : List D} (hz0 : zeroD P el = some z) (hrs : rv m w (Ow O0 m μ) (.own b k 0 n) (a.eval s)) (hrx : rd w (Ow O0 m μ) (.sl k'' l) (a.eval x))
    (hB : aget μ b = some B) (hk'' : k'' = k ∨ l = []) (hle : n * k ≤ B.cells.length) (hbh : 1099511627776 ≤ b) (hf : aget μ d = none)
    (hby : (n * k + l.length) * i.bytes ≤ k * 2 ^ 46) :
    Does P w0 X O0 m0 np nt m e μ a w ⟨some d, .call { callee := .builtin .append, args := #[s, x], argTypes := #[t, u] }, ty, pos, after, gd⟩ none (.own (cntOf μ) k 0 (n + l.length / k)) e (hput { B with cells := B.cells.take (n * k) ++ l } (adel b μ)) := by
  have hnt := R.heap.ntb
  have hpf := R.heap.hpf b B hbh hB
  obtain ⟨R', hK⟩ := R.down hd hdn hB hbh hf
  have hrs' : rv (upd m d (m b)) w (Ow O0 (upd m d (m b)) (aput d B (adel b μ))) (.own d k 0 n) (a.eval s) := by
    simp only [rv, rv1] at hrs ⊢
    simp only [upd, if_true]
    exact hrs
  have hsd := R.no_says (by omega) hf
  have hD := app_does (ty := ty) (pos := pos) (after := after) (gd := gd) (d := d) R' ht hu hi hk hb0 hz0 hrs' (rd_keep hK _ _ hrx) (aget_aput_same _ _ _) hk'' hle (by omega) hpf.2 (by omega) hby
  rw [drop_fresh hsd, aput_aput] at hD
  refine app_up (by rw [aget_adel_ne (by omega)]; exact hf) (by omega) ⟨hpf.2, hpf.1⟩ (cntOf_low (aget_adel_ne (by omega) _)) hsd (fun id i1 i2 => ⟨aget_adel_ne (by omega) _, ?_, by simp [upd, i2]⟩) hD hf
  rw [aget_aput_ne i2, aget_adel_ne (by omega)]

theorem nhapp_does (R : Rel w0 X O0 m0 np nt m e μ a w) (hd : np ≤ d) (hdn : d < nt) {t u el : TypeId} {s x : Operand} {i : TypeInfo} {k k'' : Nat} {l : List D}
    (ht : P.underlying t = some (.slice el)) (hu : P.underlying u = some (.slice el)) (hi : P.info? el = some i) (hk : i.size = k) (hb0 : i.bytes ≠ 0) {z : List D} (hz0 : zeroD P el = some z) (hrs : a.eval s = .slice none 0 0) (hrx : rd w (Ow O0 m μ) (.sl k'' l) (a.eval x))
    (hk0 : k ≠ 0) (hk'' : k'' = k ∨ l = []) (hf : aget μ d = none) (hby : l.length * i.bytes ≤ k * 2 ^ 46) :
    Does P w0 X O0 m0 np nt m e μ a w ⟨some d, .call { callee := .builtin .append, args := #[s, x], argTypes := #[t, u] }, ty, pos, after, gd⟩ none (.own (cntOf μ) k 0 (l.length / k)) e (hput ⟨0, false, l⟩ μ) := by
  have hnt := R.heap.ntb
  exact app_up hf (by omega) ⟨rfl, rfl⟩ rfl (R.no_says (by omega) hf) (fun id _ _ => ⟨rfl, rfl, rfl⟩) (napp_does R hd hdn ht hu hi hk hb0 hz0 hrs hrx hk0 hk'' hf hby) hf

/-- A literal on the heap. -/
theorem lith_does (R : Rel w0 X O0 m0 np nt m e μ a w) (hd : np ≤ d) (hdn : d < nt) {o : Oper} {t el : TypeId} {n k : Nat} {parts : Array (Nat × Operand)} {z : List D} (ho : o.op = .buildSlice t n parts)
    (ht : P.underlying t = some (.slice el)) (hk : szOf P el = some k) (hk0 : k ≠ 0) (hn : ¬ n * k > 2 ^ 24) (hz : zeroD P el = some z) (hps : cParts P (fun i => some (i * k, k, el)) parts.toList = some []) (hf : aget μ d = none) :
    Does P w0 X O0 m0 np nt m e μ a w o none (.own (cntOf μ) k 0 n) e (hput ⟨0, false, (List.replicate n z).flatten⟩ μ) := by
  have hnt := R.heap.ntb
  exact app_up hf (by omega) ⟨rfl, rfl⟩ rfl (R.no_says (by omega) hf) (fun id _ _ => ⟨rfl, rfl, rfl⟩) (lito_does R hd hdn ho ht hk hk0 hn hz hps rfl hf) hf
/-- A slice made on the heap. -/
theorem mkh_does (R : Rel w0 X O0 m0 np nt m e μ a w) (hd : np ≤ d) (hdn : d < nt) {t el : TypeId} {l c : Operand} {z : List D} {i : TypeInfo} {ln cp : Nat} {kl kc : IntKind} (ht : P.underlying t = some (.slice el)) (hi : P.info? el = some i) (hz : zeroD P el = some z)
    (hs0 : i.size ≠ 0) (hl : a.eval l = .int kl (ln : Int)) (hcp : a.eval c = .int kc (cp : Int)) (h1 : ln ≤ cp) (h2 : i.bytes * cp ≤ 2 ^ 48) (h3 : cp < 2 ^ 63) (hf : aget μ d = none) :
    Does P w0 X O0 m0 np nt m e μ a w ⟨some d, .makeSlice t l c, ty, pos, after, gd⟩ none (.own (cntOf μ) i.size 0 ln) e (hput ⟨0, false, (List.replicate ln z).flatten⟩ μ) := by
  have hnt := R.heap.ntb
  exact app_up hf (by omega) ⟨rfl, rfl⟩ rfl (R.no_says (by omega) hf) (fun id _ _ => ⟨rfl, rfl, rfl⟩) (mk_does R hd hdn ht hi hz hs0 hl hcp h1 h2 h3 hf) hf
/-- A new block of the heap becomes data. -/
theorem Does.frz1 {o : Oper} {c k n : Nat} {B : Blk} {μ1 : Mem} (h : Does P w0 X O0 m0 np nt m e μ a w o none (.own c k 0 n) e μ1) (hc : 1099511627776 ≤ c) (hB : aget μ1 c = some B) (hle : n * k ≤ B.cells.length) :
    Does P w0 X O0 m0 np nt m e μ a w o none (.d (.sl k (B.cells.take (n * k)))) e (adel c μ1) := by
  obtain ⟨y, w', m', h1, R, hr, h4, h5⟩ := h
  obtain ⟨hK, R', hnew⟩ := R.frzG (S := [c]) (fun x hx => by simp at hx; omega)
  refine ⟨y, w', m', h1, R', ?_, fun b hb => by simp [V.says, V.says1] at hb, fun id i1 i2 i3 i4 => ?_⟩
  · have hbl : onBlk (m' c) k 0 n y := hr
    refine onBlk_sl hbl (by simp; omega) fun g s hm => ?_
    obtain ⟨h4, h5, h6, arr, T, h7, h8, h9⟩ := R.blks.blk c B hB g s hm
    refine At.rdC (fun i d hd => ?_) fun i hi => hnew c B g s (by simp) hB hm _
    have h10 := (At.of_rdB h9 h7).take (n * k) i d hd
    obtain ⟨q1, z, q2, q3⟩ := h10
    exact ⟨q1, z, q2, rd_keep hK d z q3⟩
  · obtain ⟨j1, j2, j3, j4⟩ := h5 id i1 i2 i3 i4
    exact ⟨j1, by rw [← j2]; exact aget_adel_ne (by omega) _, by simp [V.says, V.says1], j4⟩

theorem fill_nil {μ : Mem} : ∀ {ps : List (Nat × Nat × Go.Proofs.R.X)} {cs l : List D}, fillD e [] ps cs = some l → fillD e μ ps cs = some l
  | [], cs, l, h => h
  | (off, n, x) :: r, cs, l, h => by
    simp only [fillD, Option.bind_eq_some_iff] at h ⊢
    obtain ⟨v, h1, d, h2, h3⟩ := h
    refine ⟨v, h1, d, ?_, ?_⟩
    · cases v with
      | d x => exact h2
      | own b k o n => simp [toD, aget] at h2
      | _ => cases h2
    · split at h3
      · rename_i hc; rw [if_pos hc]; exact fill_nil h3
      · cases h3
theorem rv_sl_len {O : Cells} {k k'' : Nat} {l : List D} {y : Value} (h : rd w O (.sl k'' l) y) (hk : k'' = k ∨ l = []) : ∃ j, l.length = j * k := by
  simp only [rd] at h
  obtain ⟨_, j, _, _, _, _, h, _⟩ := h
  rcases hk with rfl | rfl
  · exact ⟨j, h.symm⟩
  · exact ⟨0, by simp⟩
theorem appf_does (R : Rel w0 X O0 m0 np nt m e μ a w) (hd : np ≤ d) (hdn : d < nt) {t u el : TypeId} {s x : Operand} {i : TypeInfo} {b k n k'' : Nat} {l : List D} {B : Blk}
    (ht : P.underlying t = some (.slice el)) (hu : P.underlying u = some (.slice el)) (hi : P.info? el = some i) (hk : i.size = k) (hb0 : i.bytes ≠ 0) {z : List D} (hz0 : zeroD P el = some z) (hrs : rv m w (Ow O0 m μ) (.own b k 0 n) (a.eval s)) (hrx : rd w (Ow O0 m μ) (.sl k'' l) (a.eval x))
    (hB : aget μ b = some B) (hk'' : k'' = k ∨ l = []) (hle : n * k ≤ B.cells.length) (hbh : 1099511627776 ≤ b) (hf : aget μ d = none)
    (hby : (n * k + l.length) * i.bytes ≤ k * 2 ^ 46) (hk0 : ¬ i.size = 0) :
    Does P w0 X O0 m0 np nt m e μ a w ⟨some d, .call { callee := .builtin .append, args := #[s, x], argTypes := #[t, u] }, ty, pos, after, gd⟩ none (.d (.sl k (B.cells.take (n * k) ++ l))) e (adel (cntOf μ) (hput { B with cells := B.cells.take (n * k) ++ l } (adel b μ))) := by
  have h := happ_does (ty := ty) (pos := pos) (after := after) (gd := gd) R hd hdn ht hu hi hk hb0 hz0 hrs hrx hB hk'' hle hbh hf hby
  have hcl : 1099511627776 ≤ cntOf μ := Nat.le_trans O0.hc0 R.heap.cnt0
  have hcc : cntOf (adel b μ) = cntOf μ := cntOf_low (aget_adel_ne (by omega) _)
  obtain ⟨j, hj⟩ := rv_sl_len hrx hk''
  have hkp : 0 < k := by omega
  have h2 := h.frz1 hcl (B := { B with cells := B.cells.take (n * k) ++ l }) (by unfold hput; rw [aget_aput_ne (by omega), hcc, aget_aput_same]) (by
    rw [hj, Nat.mul_div_cancel _ hkp]
    simp only [List.length_append, List.length_take, Nat.min_eq_left hle, hj, Nat.add_mul]
    exact Nat.le_refl _)
  have e1 : (B.cells.take (n * k) ++ l).take ((n + l.length / k) * k) = B.cells.take (n * k) ++ l := by
    apply List.take_of_length_le
    rw [hj, Nat.mul_div_cancel _ hkp]
    simp only [List.length_append, List.length_take, Nat.min_eq_left hle, hj, Nat.add_mul]
    exact Nat.le_refl _
  simp only [e1] at h2
  exact h2
end
end Go.Proofs.R

/- Instructions. -/
namespace Go.Proofs.R
open Go Go.RowKit
set_option linter.unusedSimpArgs false

section
variable {P : Program} {w0 w w' : World} {X : Nat → Prop} {O0 : Outs} {m0 m : Nat → Option (Nat × Nat)} {np nt : Nat} {e e' : Env} {μ μ' : Mem} {a : Act}
variable {g : Task → Option Out} {h : Hint}

/-- The oracle's answers to calls are right. -/
def Right (P : Program) (w0 : World) (X : Nat → Prop) (g : Task → Option Out) : Prop := ∃ T, Base T w0 X ∧ ∀ f args μ r μr, g (.call f args μ) = some (.ret r μr) → CallOK P T f args μ r μr

/-- A block laid ahead, that nobody has made yet. -/
structure Pend (m : Nat → Option (Nat × Nat)) (e : Env) (μ : Mem) (d : Nat) (z : List D) : Prop where
  none : m d = none
  blk : aget μ d = some ⟨0, true, z⟩
  says : ∀ t v, aget e t = some v → v.says d = false
  low : d < 1099511627775

/-- Which block an operation makes that was laid ahead. -/
def J.newId (d : Nat) : J → Option Nat
  | .new _ => some d
  | _ => none

theorem wp_of_run {o : Oper} {y : Value} {K : Act → World → Prop} {Q : Exit → Act → World → Prop} (hr : (execOp a.eval o).run P w = .ok (.value y) w') (hK : K (a.put o.dst y) w') : o.wp P a w K Q := by
  unfold Oper.wp; rw [hr]; exact hK
theorem wp_of_skip {o : Oper} {K : Act → World → Prop} {Q : Exit → Act → World → Prop} (hr : (execOp a.eval o).run P w = .ok .skip w') (hK : K (a.put o.dst undef) w') : o.wp P a w K Q := by
  unfold Oper.wp; rw [hr]; exact hK

theorem zipB_snd : ∀ (io : List Bool) (l : List Go.Proofs.R.X), (zipB io l).map (·.2) = l
  | [], [] => rfl
  | _ :: _, [] => rfl
  | [], x :: r => by simp [zipB, zipB_snd [] r]
  | b :: bs, x :: r => by simp [zipB, zipB_snd bs r]

theorem ioK_false (e : Env) : ∀ (l : List Go.Proofs.R.X) (j : Nat), ioK e j (l.map fun x => (false, x)) = []
  | [], _ => rfl
  | _ :: r, j => by simp only [List.map_cons, ioK]; exact ioK_false e r (j + 1)
theorem callu_wp (R : Rel w0 X O0 m0 np nt m e μ a w) {T : List (Nat × Obj)} (hT : Base T w0 X) {f d : Nat} {fn : Func} {args : Array Operand} {argTypes : Array TypeId} {l : List Go.Proofs.R.X} {v : V} {dst : Option Tmp} {ty : TypeId} {pos : String} {after : Array Edge} {gd : Option (Nat × Bool)}
    (hf : P.funcs[f]? = some fn) (hn : (fn.name == "runtime.NumGoroutine") = false) (hb : fn.body.isNone = false) (hl : cXs P argTypes.toList args.toList = some l) (hg : ∀ f args μ r μr, g (.call f args μ) = some (.ret r μr) → CallOK P T f args μ r μr)
    (hx : goU g d f l e μ = some (v, μ')) (hnp : np ≤ d) {K : Act → World → Prop} {Q : Exit → Act → World → Prop}
    (hK : ∀ m' y w', Rel w0 X O0 m0 np nt m' e μ' a w' → rv m' w' (Ow O0 m' μ') v y → (∀ b, v.says b = true → Said μ' b) → Quiet none m m' e e μ μ' v → K (a.put dst y) w') :
    (⟨dst, .call { callee := .value (.func f), args := args, argTypes := argTypes }, ty, pos, after, gd⟩ : Oper).wp P a w K Q := by
  simp only [goU, Option.bind_eq_some_iff] at hx
  obtain ⟨⟨vs, ν⟩, hargs, hx⟩ := hx
  split at hx
  case isFalse => cases hx
  rename_i hdis
  simp only [Bool.and_eq_true, decide_eq_true_eq] at hdis
  simp only [Option.bind_eq_some_iff] at hx
  obtain ⟨oo, hoo, hx⟩ := hx
  cases oo with
  | st x e μ => cases hx
  | ret r ν' =>
    simp only [Option.bind_eq_some_iff] at hx
    obtain ⟨⟨v2, μ2⟩, h2, hx⟩ := hx
    obtain ⟨b, k, n, rfl⟩ : ∃ b k n, v2 = .own b k 0 n := by
      cases v2 with
      | own b k off n => cases off with
        | zero => exact ⟨b, k, n, rfl⟩
        | succ o => simp [upR] at hx
      | _ => simp [upR] at hx
    simp only [upR] at hx
    split at hx
    case isFalse => cases hx
    rename_i hc
    obtain ⟨rfl, hd, hfd⟩ := hc
    have hfd' : aget μ b = none := by simpa using hfd
    simp only [Option.bind_eq_some_iff] at hx
    obtain ⟨N, hN, hx⟩ := hx
    split at hx
    case isFalse => cases hx
    rename_i hNc
    simp only [Option.some.injEq, Prod.mk.injEq] at hx
    obtain ⟨rfl, rfl⟩ := hx
    refine callh_wp (d := b) (l' := l.map fun x => (false, x)) R hT hf hn hb hl (by simp [Function.comp_def]) hargs (by rw [ioK_false]; rfl) (by rw [ioK_false]; rfl) (by simpa using hdis.1) (hg _ _ _ _ _ hoo) (by rw [ioK_false]; rfl) (by rw [ioK_false]; exact h2) hnp hd fun m' y w' q1 q2 q3 q4 => ?_
    have hse := R.no_says hd hfd'
    have hp : Go.Proofs.R.prom b e μ2 = some (e, hput N (adel b μ2)) := by
      unfold Go.Proofs.R.prom
      rw [hN]
      simp only [Option.bind_some]
      rw [if_pos ⟨hd, hNc.1, hNc.2.1⟩]
      have hcd : cntOf (adel b μ2) = cntOf μ2 := cntOf_low (aget_adel_ne (by omega) _)
      unfold hput
      rw [hcd]
      simp only [Option.some.injEq, Prod.mk.injEq, and_true]
      have : ∀ (l : Env), (∀ t v, (t, v) ∈ l → v.says b = false) → l.map (fun p => (p.1, p.2.ren b (cntOf μ2))) = l := by
        intro l hl
        induction l with
        | nil => rfl
        | cons q r ih =>
          obtain ⟨t, v⟩ := q
          simp only [List.map_cons]
          rw [ren_not (hl t v (by simp)), ih fun t v h => hl t v (by simp [h])]
      exact this e hse
    obtain ⟨m2, R2, r1, r2, r3, r4, r5, ⟨B, r6, r7, r8, r9⟩, r10, r11, r12⟩ := q1.prom hp
    refine hK m2 y w' R2 ?_ (fun c hc => ?_) fun id i1 i2 i3 i4 => ?_
    · simp only [rv, rv1] at q2 ⊢
      rw [r1]
      exact q2
    · have := says_own hc
      subst this
      exact .inr ⟨r5, by rw [r10]; omega⟩
    · obtain ⟨j1, j2, j3, j4⟩ := q4 id i1 i2 i3 i4
      have hid : id ≠ b := by
        rintro rfl
        obtain ⟨C, hC, _⟩ := i4
        rw [hfd'] at hC; cases hC
      refine ⟨by rw [r2 id i1, j1], ?_, ?_, i3⟩
      · rw [r11 id hid (by omega) (by omega), j2]
      · cases hh : (V.own (cntOf μ2) k 0 n).says id with
        | false => rfl
        | true => have := says_own hh; omega

theorem exO_wp (hg : Right P w0 X g) (R : Rel w0 X O0 m0 np nt m e μ a w) {o : Oper} {d : Nat} {j : J} {v : V} (hd : o.dst = some d) (hc : cO P h o.dst o.type o.op = some j) (hnp : j.makes = true → np ≤ d) (hdn : d < nt) (hst : ∀ n x y, j ≠ .st n x y)
    (hpend : ∀ z, j = .new z → Pend m e μ d z) (hx : exO g d j e μ = some (v, e', μ')) {K : Act → World → Prop} {Q : Exit → Act → World → Prop}
    (hK : ∀ m' y w', Rel w0 X O0 m0 np nt m' e' μ' a w' → rv m' w' (Ow O0 m' μ') v y → (∀ b, v.says b = true → Said μ' b) → Quiet (j.newId d) m m' e e' μ μ' v → K (a.put o.dst y) w') : o.wp P a w K Q := by
  have done : ∀ {dq : Option Nat}, dq = j.newId d → Does P w0 X O0 m0 np nt m e μ a w o dq v e' μ' → o.wp P a w K Q := by
    rintro dq rfl ⟨y, w', m', h1, h2, h3, h4, h5⟩
    exact wp_of_run h1 (hK m' y w' h2 h3 h4 h5)
  by_cases hq : j.quiet = true
  · have hx' : (val d e μ j).map (fun v => (v, e, μ)) = some (v, e', μ') := by
      cases j <;> first | (cases hq; done) | exact hx
    simp only [Option.map_eq_some_iff, Prod.mk.injEq] at hx'
    obtain ⟨v', hv, rfl, rfl, rfl⟩ := hx'
    refine done ?_ (quiet_does R hc hq hv)
    cases j <;> first | rfl | (cases hq; done)
  · obtain ⟨dst, op, ty, pos, after, gd⟩ := o
    simp only at hd
    subst hd
    have nilc : ∀ {x : Operand}, (match x with
        | .const (.slice none 0 0) => if ((some d).map h.nil.contains).getD false then (match P.underlying ty with | some (.slice e) => (szOf P e).bind fun k => if k = 0 then none else some (J.nil k) | _ => none) else (cX P ty x).map J.mv
        | _ => (cX P ty x).map J.mv) = some j → (op = .move x ∨ op = .assign x) → Oper.wp P ⟨some d, op, ty, pos, after, gd⟩ a w K Q := by
      intro x hc ho
      split at hc
      · split at hc
        · split at hc
          · simp only [Option.bind_eq_some_iff] at hc
            obtain ⟨k, hk, hc⟩ := hc
            split at hc
            · cases hc
            · rename_i hk0
              cases hc
              simp only [exO] at hx
              split at hx
              · rename_i hf
                cases hx
                exact done rfl (nil_does R (hnp rfl) hdn ho hk0 (by simpa using hf))
              · cases hx
          · cases hc
        · simp only [Option.map_eq_some_iff] at hc
          obtain ⟨_, _, rfl⟩ := hc
          exact absurd rfl hq
      · simp only [Option.map_eq_some_iff] at hc
        obtain ⟨_, _, rfl⟩ := hc
        exact absurd rfl hq
    have hc0 := hc
    cases op <;> simp only [cO] at hc
    case move x => exact nilc hc (.inl rfl)
    case assign x => exact nilc hc (.inr rfl)
    case pick c a b =>
      simp only [Option.bind_eq_some_iff, Option.map_eq_some_iff] at hc
      obtain ⟨_, _, _, _, _, _, rfl⟩ := hc
      exact absurd rfl hq
    case alloc t =>
      simp only [Option.map_eq_some_iff] at hc
      obtain ⟨z, hz, rfl⟩ := hc
      have hp := hpend z rfl
      simp only [exO, val, Option.map_some, Option.some.injEq, Prod.mk.injEq] at hx
      obtain ⟨rfl, rfl, rfl⟩ := hx
      exact done rfl (new_does R (hnp rfl) hdn hz hp.blk hp.says)
    case box t x =>
      simp only [Option.map_eq_some_iff] at hc
      obtain ⟨x', hx', rfl⟩ := hc
      simp only [exO, Option.bind_eq_some_iff] at hx
      obtain ⟨u, hu, z, hz, hx⟩ := hx
      split at hx
      · rename_i hf
        cases hx
        exact done rfl (box_does R (hnp rfl) hdn hx' hu hz (by simpa using hf))
      · cases hx
    case build t parts =>
      split at hc
      · split at hc
        · simp only [Option.bind_eq_some_iff, Option.map_eq_some_iff] at hc
          obtain ⟨_, _, _, _, rfl⟩ := hc
          exact absurd rfl hq
        · cases hc
      · simp only [Option.bind_eq_some_iff, Option.map_eq_some_iff] at hc
        obtain ⟨_, _, _, _, _, _, rfl⟩ := hc
        exact absurd rfl hq
      · cases hc
    case buildSlice t n parts =>
      split at hc
      · rename_i el ht
        simp only [Option.bind_eq_some_iff] at hc
        obtain ⟨k, hk, hc⟩ := hc
        split at hc
        · cases hc
        · rename_i hcond
          simp only [Option.bind_eq_some_iff, Option.map_eq_some_iff] at hc
          obtain ⟨z, hz, ps, hps, hc⟩ := hc
          split at hc
          · subst hc
            simp only [exO] at hx
            split at hx
            · rename_i hf
              simp only [Option.bind_eq_some_iff] at hx
              obtain ⟨l, hl, hx⟩ := hx
              cases hx
              exact done rfl (lito_does R (hnp rfl) hdn rfl ht hk (fun h => hcond (.inl h)) (fun h => hcond (.inr h)) hz hps hl (by simpa using hf.1))
            · cases hx
          split at hc
          · subst hc
            simp only [exO, val] at hx
            split at hx
            · simp only [Option.map_map, Option.map_eq_some_iff, Function.comp_apply, Prod.mk.injEq] at hx
              obtain ⟨l, hl, rfl, rfl, rfl⟩ := hx
              exact done rfl (lit_does R rfl ht hk (fun h => hcond (.inl h)) (fun h => hcond (.inr h)) hz hps (fill_nil hl))
            · simp at hx
          split at hc
          · rename_i hlh
            subst hc
            simp only [exO] at hx
            split at hx
            · rename_i hf
              cases hx
              have hpe : ps = [] := by
                simp only [Bool.and_eq_true] at hlh
                exact List.isEmpty_iff.1 hlh.2
              subst hpe
              exact done rfl (lith_does R (hnp rfl) hdn rfl ht hk (fun h => hcond (.inl h)) (fun h => hcond (.inr h)) hz hps (by simpa using hf.1))
            · cases hx
          · subst hc
            simp only [exO, val] at hx
            split at hx
            · simp only [Option.map_map, Option.map_eq_some_iff, Function.comp_apply, Prod.mk.injEq] at hx
              obtain ⟨l, hl, rfl, rfl, rfl⟩ := hx
              exact done rfl (lit_does R rfl ht hk (fun h => hcond (.inl h)) (fun h => hcond (.inr h)) hz hps hl)
            · cases hx
      · cases hc
    case load t x =>
      simp only [Option.bind_eq_some_iff, Option.map_eq_some_iff] at hc
      obtain ⟨_, _, _, _, _, _, hc⟩ := hc
      (repeat' split at hc) <;> (subst hc; exact absurd rfl hq)
    case store t x y =>
      simp only [Option.bind_eq_some_iff, Option.map_eq_some_iff] at hc
      obtain ⟨_, _, _, _, _, _, hc⟩ := hc
      subst hc; exact absurd rfl (hst _ _ _)
    case nilCheck x =>
      simp only [Option.map_eq_some_iff] at hc
      obtain ⟨_, _, rfl⟩ := hc
      exact absurd rfl hq
    case binOp op t x y yt =>
      have gq : ∀ {f : Go.Proofs.R.X → Go.Proofs.R.X → J}, (∀ x y, (f x y).quiet = true) → ((cX P t x).bind fun x => (cX P yt y).map fun y => f x y) = some j → False := by
        intro f hf hc
        simp only [Option.bind_eq_some_iff, Option.map_eq_some_iff] at hc
        obtain ⟨_, _, _, _, rfl⟩ := hc
        exact hq (hf _ _)
      split at hc
      · split at hc
        · exact (gq (f := fun x y => J.beq false x y) (fun _ _ => rfl) hc).elim
        · exact (gq (f := fun x y => J.beq true x y) (fun _ _ => rfl) hc).elim
        · cases hc
      · split at hc
        · split at hc
          · simp only [Option.map_eq_some_iff] at hc; obtain ⟨_, _, rfl⟩ := hc; exact absurd rfl hq
          · simp only [Option.map_eq_some_iff] at hc; obtain ⟨_, _, rfl⟩ := hc; exact absurd rfl hq
          · cases hc
        · cases hc
      · exact (gq (f := fun x y => J.bin op x y) (fun _ _ => rfl) hc).elim
    case unOp op t x => simp only [Option.map_eq_some_iff] at hc; obtain ⟨_, _, rfl⟩ := hc; exact absurd rfl hq
    case convert src dt x =>
      split at hc
      · simp only [Option.map_eq_some_iff] at hc; obtain ⟨_, _, rfl⟩ := hc; exact absurd rfl hq
      · cases hc
    case makeSlice t l c =>
      split at hc
      · rename_i el ht
        simp only [Option.bind_eq_some_iff] at hc
        obtain ⟨i, hi, hc⟩ := hc
        split at hc
        · cases hc
        · rename_i hcond
          simp only [Option.bind_eq_some_iff, Option.map_eq_some_iff] at hc
          obtain ⟨z, hz, l', hl, c', hcc, hc⟩ := hc
          split at hc
          · subst hc
            simp only [exO, Option.bind_eq_some_iff] at hx
            obtain ⟨u1, hu1, u2, hu2, n1, hn1, n2, hn2, hx⟩ := hx
            split at hx
            · rename_i hf
              cases hx
              obtain ⟨k1, e1⟩ := run_natOf (ev_ok R.envOk hl hu1) hn1
              obtain ⟨k2, e2⟩ := run_natOf (ev_ok R.envOk hcc hu2) hn2
              exact done rfl (mkh_does R (hnp rfl) hdn ht hi hz (fun h => hcond (.inl h)) e1 e2 hf.2.1 hf.2.2.1 hf.2.2.2 (by simpa using hf.1))
            · cases hx
          · subst hc
            simp only [exO, Option.bind_eq_some_iff] at hx
            obtain ⟨u1, hu1, u2, hu2, n1, hn1, n2, hn2, hx⟩ := hx
            split at hx
            · rename_i hf
              cases hx
              obtain ⟨k1, e1⟩ := run_natOf (ev_ok R.envOk hl hu1) hn1
              obtain ⟨k2, e2⟩ := run_natOf (ev_ok R.envOk hcc hu2) hn2
              exact done rfl (mk_does R (hnp rfl) hdn ht hi hz (fun h => hcond (.inl h)) e1 e2 hf.2.1 hf.2.2.1 hf.2.2.2 (by simpa using hf.1))
            · cases hx
      · cases hc
    case slice t x lo hi mx =>
      cases mx with
      | some _ => cases hc
      | none =>
        simp only at hc
        split at hc
        · simp only [Option.bind_eq_some_iff] at hc
          obtain ⟨k, hk, hc⟩ := hc
          split at hc
          · cases hc
          · simp only [Option.bind_eq_some_iff, Option.map_eq_some_iff] at hc
            obtain ⟨_, _, _, _, _, _, rfl⟩ := hc
            exact absurd rfl hq
        · simp only [Option.bind_eq_some_iff, Option.map_eq_some_iff] at hc
          obtain ⟨_, _, _, _, _, _, rfl⟩ := hc
          exact absurd rfl hq
        · cases hc
    case fieldAddr t x f =>
      split at hc
      · simp only [Option.bind_eq_some_iff] at hc
        obtain ⟨_, _, _, _, hc⟩ := hc
        split at hc
        · cases hc
        · simp only [Option.map_eq_some_iff] at hc; obtain ⟨_, _, rfl⟩ := hc; exact absurd rfl hq
      · cases hc
    case field t x f =>
      split at hc
      · simp only [Option.bind_eq_some_iff, Option.map_eq_some_iff] at hc
        obtain ⟨_, _, _, _, _, _, _, _, rfl⟩ := hc
        exact absurd rfl hq
      · cases hc
    case indexAddr t x i =>
      split at hc
      · simp only [Option.bind_eq_some_iff] at hc
        obtain ⟨_, _, hc⟩ := hc
        split at hc
        · cases hc
        · simp only [Option.bind_eq_some_iff, Option.map_eq_some_iff] at hc; obtain ⟨_, _, _, _, rfl⟩ := hc; exact absurd rfl hq
      · simp only [Option.bind_eq_some_iff, Option.map_eq_some_iff] at hc; obtain ⟨_, _, _, _, _, _, rfl⟩ := hc; exact absurd rfl hq
      · cases hc
    case index t x i =>
      split at hc
      · simp only [Option.bind_eq_some_iff, Option.map_eq_some_iff] at hc; obtain ⟨_, _, _, _, _, _, _, _, rfl⟩ := hc; exact absurd rfl hq
      · simp only [Option.bind_eq_some_iff, Option.map_eq_some_iff] at hc; obtain ⟨_, _, _, _, rfl⟩ := hc; exact absurd rfl hq
      · cases hc
    case extract x i => simp only [Option.map_eq_some_iff] at hc; obtain ⟨_, _, rfl⟩ := hc; exact absurd rfl hq
    case call c =>
      obtain ⟨callee, args, argTypes⟩ := c
      cases callee with
      | value f =>
        cases f with
        | func f =>
          simp only at hc
          split at hc
          · rename_i fn hf
            split at hc
            · cases hc
            · rename_i hcond
              simp only [Bool.or_eq_true, not_or, Bool.not_eq_true] at hcond
              simp only [Option.map_eq_some_iff] at hc
              obtain ⟨l, hl, hc⟩ := hc
              split at hc
              · subst hc
                simp only [exO, Option.bind_eq_some_iff] at hx
                obtain ⟨⟨vs, ν⟩, hargs, hx⟩ := hx
                split at hx
                · rename_i hdis
                  simp only [Option.bind_eq_some_iff] at hx
                  obtain ⟨oo, hoo, hx⟩ := hx
                  cases oo with
                  | st x e μ => cases hx
                  | ret r ν' =>
                    simp only at hx
                    split at hx
                    case isFalse => cases hx
                    rename_i hν
                    simp only [Option.bind_eq_some_iff] at hx
                    obtain ⟨μ1, h1, ⟨v2, μ2⟩, h2, hx⟩ := hx
                    cases hx
                    simp only [Bool.and_eq_true, decide_eq_true_eq] at hdis
                    obtain ⟨T, hT, hg⟩ := hg
                    have hnt := R.heap.ntb
                    exact callk_wp' R hT hf hcond.1 hcond.2 hl (zipB_snd _ _) hargs hdis.1.1 hdis.1.2 hν hdis.2 (hg _ _ _ _ _ hoo) h1 h2 (hnp rfl) (by omega) fun m' y w' q1 q2 q3 q4 => hK m' y w' q1 q2 q3 q4
                · cases hx
              · split at hc
                · subst hc
                  simp only [exO, Option.bind_eq_some_iff] at hx
                  obtain ⟨⟨vs, ν⟩, hargs, hx⟩ := hx
                  split at hx
                  · rename_i hdis
                    simp only [Option.bind_eq_some_iff] at hx
                    obtain ⟨oo, hoo, hx⟩ := hx
                    cases oo with
                    | st x e μ => cases hx
                    | ret r ν' =>
                      simp only [Option.bind_eq_some_iff] at hx
                      obtain ⟨μ1, h1, ⟨v2, μ2⟩, h2, hx⟩ := hx
                      cases hx
                      simp only [Bool.and_eq_true, decide_eq_true_eq] at hdis
                      obtain ⟨T, hT, hg⟩ := hg
                      have hnt := R.heap.ntb
                      exact callh_wp R hT hf hcond.1 hcond.2 hl (zipB_snd _ _) hargs hdis.1.1.1 hdis.1.1.2 hdis.1.2 (hg _ _ _ _ _ hoo) h1 h2 (hnp rfl) (by omega) fun m' y w' q1 q2 q3 q4 => hK m' y w' q1 q2 q3 q4
                  · cases hx
                · split at hc
                  · subst hc
                    simp only [exO, Option.bind_eq_some_iff] at hx
                    obtain ⟨⟨v2, μ2⟩, h2, hx⟩ := hx
                    cases hx
                    obtain ⟨T, hT, hg⟩ := hg
                    exact callu_wp R hT hf hcond.1 hcond.2 hl hg h2 (hnp rfl) fun m' y w' q1 q2 q3 q4 => hK m' y w' q1 q2 q3 q4
                  split at hc
                  · subst hc
                    simp only [exO, Option.bind_eq_some_iff] at hx
                    obtain ⟨vs, hvs, ds, hds, hx⟩ := hx
                    split at hx
                    case isFalse => cases hx
                    rename_i hnr
                    simp only [Option.bind_eq_some_iff] at hx
                    obtain ⟨oo, hoo, hx⟩ := hx
                    split at hx
                    · rename_i r ν
                      simp only [Option.bind_eq_some_iff] at hx
                      obtain ⟨v', hv', hx⟩ := hx
                      cases hx
                      obtain ⟨T, hT, hg⟩ := hg
                      refine callc_wp R hf hcond.1 hcond.2 hl hvs hds hT (hg _ _ _ _ _ hoo) hnr hv' fun y w' h1 h2 h3 => ?_
                      refine hK m y w' h1 h2 (fun b hb => by rw [h3 b] at hb; cases hb) fun id _ _ hs _ => ⟨rfl, rfl, h3 id, hs⟩
                    · cases hx
                  · subst hc
                    simp only [exO] at hx
                    split at hx
                    case isFalse => cases hx
                    rename_i hμ
                    simp only [Option.bind_eq_some_iff] at hx
                    obtain ⟨vs, hvs, ds, hds, oo, hoo, hx⟩ := hx
                    split at hx
                    · rename_i r ν
                      split at hx
                      case isFalse => cases hx
                      rename_i hν
                      simp only [Option.bind_eq_some_iff] at hx
                      obtain ⟨v', hv', hx⟩ := hx
                      cases hx
                      obtain ⟨T, hT, hg⟩ := hg
                      refine call_wp R hf hcond.1 hcond.2 hl hvs hds hT (hg _ _ _ _ _ hoo) hμ hν hv' fun y w' h1 h2 h3 => ?_
                      refine hK m y w' h1 h2 (fun b hb => by rw [h3 b] at hb; cases hb) fun id _ _ hs _ => ⟨rfl, rfl, h3 id, hs⟩
                    · cases hx
          · cases hc
        | _ => cases hc
      | invoke _ _ => cases hc
      | builtin b =>
        obtain ⟨args⟩ := args
        obtain ⟨argTypes⟩ := argTypes
        simp only at hc
        split at hc
        · split at hc
          · simp only [Option.bind_eq_some_iff] at hc
            obtain ⟨k, hk, hc⟩ := hc
            split at hc
            · cases hc
            · simp only [Option.map_eq_some_iff] at hc; obtain ⟨_, _, rfl⟩ := hc; exact absurd rfl hq
          · simp only [Option.map_eq_some_iff] at hc; obtain ⟨_, _, rfl⟩ := hc; exact absurd rfl hq
          · simp only [Option.some.injEq] at hc; subst hc; exact absurd rfl hq
          · cases hc
        · rename_i s x t u
          split at hc
          · rename_i el ht
            split at hc
            · rename_i el' hu
              simp only [Option.bind_eq_some_iff] at hc
              obtain ⟨i, hi, hc⟩ := hc
              split at hc
              · cases hc
              · rename_i hcond
                simp only [Option.bind_eq_some_iff, Option.map_eq_some_iff] at hc
                obtain ⟨z, hz, s', hs, x', hx', hc⟩ := hc
                have hel : el' = el := Decidable.byContradiction fun h => hcond (.inr (.inr h))
                subst hel
                split at hc
                · subst hc
                  simp only [exO, Option.bind_eq_some_iff] at hx
                  obtain ⟨u1, hu1, hx⟩ := hx
                  have hrs := ev_ok R.envOk hs hu1
                  split at hx
                  · simp only [Option.bind_eq_some_iff] at hx
                    obtain ⟨u2, hu2, u3, hu3, hx⟩ := hx
                    have hrx := toD_rd R.memOk (ev_ok R.envOk hx' hu2) hu3
                    split at hx
                    · rename_i k'' l
                      split at hx
                      · rename_i hf
                        cases hx
                        obtain ⟨h1, h2, h3, h4⟩ := hf
                        have hr0 : a.eval s = .slice none 0 0 := by
                          have : _ ∧ _ := hrs
                          exact this.1
                        exact done rfl (nhapp_does R (hnp rfl) hdn ht hu hi rfl (fun h => hcond (.inr (.inl h))) hz hr0 hrx h2 h3 (by simpa using h1) h4)
                      · cases hx
                    · cases hx
                  · rename_i b k' n
                    simp only [Option.bind_eq_some_iff] at hx
                    obtain ⟨u2, hu2, u3, hu3, hx⟩ := hx
                    have hrx := toD_rd R.memOk (ev_ok R.envOk hx' hu2) hu3
                    split at hx
                    · rename_i k'' l
                      simp only [Option.bind_eq_some_iff] at hx
                      obtain ⟨B, hB, hx⟩ := hx
                      split at hx
                      · rename_i hf
                        cases hx
                        obtain ⟨h0, h1, rfl, h2, h3, h6⟩ := hf
                        exact done rfl (happ_does R (hnp rfl) hdn ht hu hi rfl (fun h => hcond (.inr (.inl h))) hz hrs hrx hB h2 h3 h0 (by simpa using h1) h6)
                      · cases hx
                    · cases hx
                  · cases hx
                split at hc
                · subst hc
                  simp only [exO, Option.bind_eq_some_iff] at hx
                  obtain ⟨u1, hu1, hx⟩ := hx
                  have hrs := ev_ok R.envOk hs hu1
                  split at hx
                  · rename_i b k' n
                    simp only [Option.bind_eq_some_iff] at hx
                    obtain ⟨u2, hu2, u3, hu3, hx⟩ := hx
                    have hrx := toD_rd R.memOk (ev_ok R.envOk hx' hu2) hu3
                    split at hx
                    · rename_i k'' l
                      simp only [Option.bind_eq_some_iff] at hx
                      obtain ⟨B, hB, hx⟩ := hx
                      split at hx
                      · rename_i hf
                        cases hx
                        obtain ⟨h0, h1, rfl, h2, h3, h6⟩ := hf
                        refine done rfl (appf_does R (hnp rfl) hdn ht hu hi rfl (fun h => hcond (.inr (.inl h))) hz hrs hrx hB h2 h3 h0 (by simpa using h1) h6 (fun h => hcond (.inl h)))
                      · cases hx
                    · cases hx
                  · cases hx
                · subst hc
                  simp only [exO, Option.bind_eq_some_iff] at hx
                  obtain ⟨u1, hu1, hx⟩ := hx
                  have hrs := ev_ok R.envOk hs hu1
                  split at hx
                  · rename_i b k' n
                    simp only [Option.bind_eq_some_iff] at hx
                    obtain ⟨u2, hu2, u3, hu3, hx⟩ := hx
                    have hrx := toD_rd R.memOk (ev_ok R.envOk hx' hu2) hu3
                    split at hx
                    · rename_i k'' l
                      simp only [Option.bind_eq_some_iff] at hx
                      obtain ⟨B, hB, hx⟩ := hx
                      split at hx
                      · rename_i hf
                        cases hx
                        obtain ⟨hbh, rfl, h2, h3, h4, h5, h6⟩ := hf
                        exact done rfl (app_does R ht hu hi rfl (fun h => hcond (.inr (.inl h))) hz hrs hrx hB h2 h3 h4 h5 hbh h6)
                      · cases hx
                    · cases hx
                  · cases hx
            · cases hc
          · cases hc
        · split at hc
          · simp only [Option.bind_eq_some_iff, Option.map_eq_some_iff] at hc; obtain ⟨_, _, _, _, rfl⟩ := hc; exact absurd rfl hq
          · cases hc
        · split at hc
          · simp only [Option.bind_eq_some_iff, Option.map_eq_some_iff] at hc; obtain ⟨_, _, _, _, rfl⟩ := hc; exact absurd rfl hq
          · cases hc
        · cases hc
    all_goals cases hc
end
end Go.Proofs.R
