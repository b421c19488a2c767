/- WeighKept: what Fact tells, in a block of its own. -/
import Derived.Test.YtgigaimaaijalaaDoorIv
import Derived.Test.YtgigaimaaijalaaDoorWk
import Derived.Test.YtgigaimaaijalaaDoorRg
set_option linter.unusedSimpArgs false
set_option linter.unusedVariables false
namespace Go.Proofs.YtgigaimaaijalaaDoor
open Go Go.Proofs.R
set_option maxRecDepth 10000
/-- What the elder functions answer, as natives. -/
noncomputable def nv2 : R.Nv := fun f args μ => if f = 23 then nv1 f args μ else match EX ip nv1 (.call f args μ) with
  | some (.ret r μr) => some (r, μr)
  | _ => none
theorem n2_ev {ip' : R.Ip} {f : Nat} {args : List V} {μ μr : Mem} {r : V} (h0 : ip' f = none) (hf : f ≠ 23) (h : EX ip nv1 (.call f args μ) = some (.ret r μr)) : EX ip' nv2 (.call f args μ) = some (.ret r μr) := by
  rw [EX_nat h0]
  have : nv2 f args μ = some (r, μr) := by unfold nv2; rw [if_neg hf, h]
  rw [this]; rfl
theorem at2_ev {ip' : R.Ip} (h0 : ip' F.dendron_weigh_Table_at = none) {c : List D} (h : TS c) (n : Nat) (hn : n ≤ 64) (H : Mem) : EX ip' nv2 (.call F.dendron_weigh_Table_at [.ptr 0 0, .d (.int .i64 (n : Int))] ((0, ⟨0, true, c⟩) :: H)) = some (.ret (.d (.ag (zI ((fac n : Nat) : Int)))) ((0, ⟨0, true, c1⟩) :: H)) := by
  rw [EX_nat h0]
  have : nv1 F.dendron_weigh_Table_at [.ptr 0 0, .d (.int .i64 (n : Int))] ((0, ⟨0, true, c⟩) :: H) = some (.d (.ag (zI ((fac n : Nat) : Int))), (0, ⟨0, true, c1⟩) :: H) := by
    rcases h with rfl | rfl
    · exact nv1_at ⟨n, .int .u32 0, .sl 2 [], 0, H, hn, rfl, rfl, .inl rfl, rfl⟩
    · exact nv1_at ⟨n, .int .u32 0, .sl 2 facD, 1, H, hn, rfl, rfl, .inr ⟨rfl, rfl⟩, rfl⟩
  have h2 : nv2 F.dendron_weigh_Table_at [.ptr 0 0, .d (.int .i64 (n : Int))] ((0, ⟨0, true, c⟩) :: H) = some (.d (.ag (zI ((fac n : Nat) : Int))), (0, ⟨0, true, c1⟩) :: H) := by
    unfold nv2
    rw [if_pos (by rfl)]
    exact this
  rw [h2]; rfl
theorem nv2_ok {o : Obj} (ho : TabObj o) {f : Nat} {args : List V} {μ : Mem} {r : V} {μr : Mem} (h : nv2 f args μ = some (r, μr)) : CallOK Tryd.prog [(0, o)] f args μ r μr := by
  unfold nv2 at h
  split at h
  · rename_i hf
    subst hf
    exact (prog_ok1 ho).nat _ args μ r μr (by rfl) h
  · split at h
    · rename_i r' μr' he
      cases h
      exact EX_ok (prog_ok1 ho) he
    · cases h
theorem prog_ok2 {o : Obj} (ho : TabObj o) : ProgOK Tryd.prog [(0, o)] ip2 nv2 where
  code f fn h := tab2_ok _ (aget_mem h)
  nat f args μ r μr _ h := nv2_ok ho h
theorem prog_ok3 {o : Obj} (ho : TabObj o) : ProgOK Tryd.prog [(0, o)] ip3 nv2 where
  code f fn h := tab3_ok _ (aget_mem h)
  nat f args μ r μr _ h := nv2_ok ho h
/-- Of Fact what the two texts of it answer: where there is no heap yet a block of its own; beside a heap, data. -/
noncomputable def nv4 : R.Nv := fun f args μ => if f = F.dendron_weigh_Table_Fact then (if (aget μ 1099511627775).isNone = true then (match EX ip2 nv2 (.call f args μ) with
    | some (.ret r μr) => some (r, μr)
    | _ => none) else (match EX ip3 nv2 (.call f args μ) with
    | some (.ret r μr) => some (r, μr)
    | _ => none)) else nv2 f args μ
def tab4 : List (Nat × R.Fn) := [(F.dendronlaw14_WeighKept, Wdendronlaw14_WeighKept)]
def ip4 : R.Ip := fun f => aget tab4 f
theorem tab4_ip : ip4 F.dendronlaw14_WeighKept = some Wdendronlaw14_WeighKept := rfl
theorem prog_ok4 {o : Obj} (ho : TabObj o) : ProgOK Tryd.prog [(0, o)] ip4 nv4 where
  code f fn h := by
    have := aget_mem h
    simp only [tab4, List.mem_singleton, Prod.mk.injEq] at this
    obtain ⟨rfl, rfl⟩ := this
    exact ⟨Wdendronlaw14_WeighKept.hint, Tryd.f3, Tryd.func3, Wdendronlaw14_WeighKept.ok⟩
  nat f args μ r μr _ h := by
    unfold nv4 at h
    split at h
    · split at h
      · split at h
        · rename_i r' μr' he
          cases h
          exact EX_ok (prog_ok2 ho) he
        · cases h
      · split at h
        · rename_i r' μr' he
          cases h
          exact EX_ok (prog_ok3 ho) he
        · cases h
    · exact nv2_ok ho h
theorem n4_ev {f : Nat} {args : List V} {μ μr : Mem} {r : V} (h0 : ip4 f = none) (h1 : f ≠ F.dendron_weigh_Table_Fact) (hf : f ≠ 23) (h : EX ip nv1 (.call f args μ) = some (.ret r μr)) : EX ip4 nv4 (.call f args μ) = some (.ret r μr) := by
  rw [EX_nat h0]
  have : nv4 f args μ = some (r, μr) := by
    unfold nv4
    rw [if_neg h1]
    unfold nv2; rw [if_neg hf, h]
  rw [this]; rfl
section
variable {nv : R.Nv}
theorem trim_w (l : List Nat) (hl : l.length ≤ 1125899906842624) (h0 : l ≠ []) (hz : lb l (l.length - 1) ≠ 0) (hs : ∀ i, lb l i < 18446744073709551616) {H : Mem} (hp : Hp H) : EX ip2 nv (.call F.nat_trim [.own 0 1 0 l.length] ((0, ⟨0, true, us l⟩) :: H)) = some (.ret (.own 0 1 0 l.length) ((0, ⟨0, true, us l⟩) :: H)) := by
  rw [S_call Wnat_trim.ip rfl]
  obtain ⟨k, hk⟩ : ∃ k, l.length = k + 1 := ⟨l.length - 1, by have := List.length_pos_iff.2 h0; omega⟩
  rw [hk] at hz ⊢
  have hz' : lb l k ≠ 0 := hz
  have hlb := hs k
  have lp : EX ip2 nv (.code (.loop [] [] Wnat_trim.b0) [(0, .own 0 1 0 (k + 1)), (3, .d (.int .i64 ((k : Int) + 1)))] ((0, ⟨0, true, us l⟩) :: H)) = some (.st (.exit 0) [(0, .own 0 1 0 (k + 1)), (3, .d (.int .i64 ((k : Int) + 1))), (15, .d (.bool false))] ((0, ⟨0, true, us l⟩) :: H)) := by
    rw [R_loop]
    have hk1 : (0 : Int) < (k : Int) + 1 := by omega
    simp (disch := omega) [Wnat_trim.b0, hk1, hz', hp.aget, hp.aput, hp.adel]
  have hk2 : ¬ (k : Int) + 1 = 0 := by omega
  simp (disch := omega) [Wnat_trim, lp, hk2, hp.aget, hp.aput, hp.adel, hp.keeps]
theorem clean_w_loop (l : List Nat) (h : Rw l) {H : Mem} (hp : Hp H) : ∃ x e μ, EX ip2 nv (.code (.loop [] [] Wnat_Clean.b0) [(3, .own 8 1 0 l.length), (9, .d (.sl 1 (us l))), (10, .d (.int .i64 (l.length : Int))), (11, .d (.int .i64 0))] ((8, ⟨0, false, us (List.replicate l.length 0)⟩) :: H)) = some (.st x e μ) ∧ x ≠ .normal ∧
    ∃ out, x = .exit 0 ∧ e = [(3, .own 8 1 0 l.length), (9, .d (.sl 1 (us l))), (10, .d (.int .i64 (l.length : Int))), (11, .d (.int .i64 (l.length : Int))), (12, .d (.bool false))] ∧ μ = ((8, ⟨0, false, us out⟩) :: H) ∧ out = l.map (· % 4294967296) := by
  have hl := h.2
  refine loop_n l.length (fun i e μ => ∃ out, e = [(3, .own 8 1 0 l.length), (9, .d (.sl 1 (us l))), (10, .d (.int .i64 (l.length : Int))), (11, .d (.int .i64 (i : Int)))] ∧ μ = ((8, ⟨0, false, us out⟩) :: H) ∧ out.length = l.length ∧ out = (l.take i).map (· % 4294967296) ++ List.replicate (l.length - i) 0) ?_ ?_ ⟨_, rfl, rfl, by simp, by simp⟩
  · rintro i e μ hi ⟨out, rfl, rfl, hlen, ho⟩
    left
    have hi' : (i : Int) < l.length := by omega
    have hb := h.lb i
    refine ⟨[(3, .own 8 1 0 l.length), (9, .d (.sl 1 (us l))), (10, .d (.int .i64 (l.length : Int))), (11, .d (.int .i64 ((i + 1 : Nat) : Int)))], ((8, ⟨0, false, us (out.set i (lb l i % 4294967296))⟩) :: H), ?_, _, rfl, rfl, by simpa using hlen, ?_⟩
    · simp (disch := omega) [Wnat_Clean.b0, hi', hp.aget, hp.aput, hp.adel]
    · have e1 : ((l.take i).map (· % 4294967296)).length = i := by simp; omega
      rw [ho, List.set_append, if_neg (by omega), e1, Nat.sub_self, show l.length - i = l.length - (i + 1) + 1 by omega, List.replicate_succ, List.set_cons_zero]
      rw [List.take_succ_eq_append_getElem hi, List.map_append, lb_getElem hi]
      simp
  · rintro e μ ⟨out, rfl, rfl, hlen, ho⟩
    exact ⟨.exit 0, _, _, by simp [Wnat_Clean.b0], by simp, out, rfl, rfl, rfl, by simpa using ho⟩
theorem clean_w (l : List Nat) (hc : Cl l) (hl : l.length ≤ 1099511627776) (h0 : l ≠ []) (hz : lb l (l.length - 1) ≠ 0) {H : Mem} (hp : Hp H) : EX ip2 nv (.call F.nat_Clean [.d (.sl 1 (us l))] H) = some (.ret (.own 8 1 0 l.length) ((8, ⟨0, false, us l⟩) :: H)) := by
  rw [S_call Wnat_Clean.ip rfl]
  obtain ⟨_, _, _, hr, -, out, rfl, rfl, rfl, ho⟩ := clean_w_loop (nv := nv) l (Rw.of hc hl) hp
  have ho' : out = l := by
    rw [ho]
    apply List.ext_getElem
    · simp
    · intro i h1 h2
      simp only [List.getElem_map]
      exact Nat.mod_eq_of_lt (hc _ (List.getElem_mem h2))
  subst ho'
  have ht := trim_w (nv := nv) out (by omega) h0 hz (fun i => by have := lb_lt hc i; omega) hp
  clear ho
  simp (disch := omega) [Wnat_Clean, hr, ht, hpart_cons, npart_cons, hp.aget, hp.aput, hp.adel, hp.hpart, hp.npart, hp.keeps]
theorem sign_w (c n : Nat) (H : Mem) (hp : Hp H) : EX ip2 nv (.call F.whole_sign [.d (.bool false), .d (.ref c 1 0 n)] H) = some (.ret (.d (.ag [.bool false, .ref c 1 0 n])) H) := by
  rw [S_call Wwhole_sign.ip rfl]
  simp (disch := omega) [Wwhole_sign, hp.aget, hp.aput, hp.adel, hp.keeps]
theorem wclean_w (l : List Nat) (hc : Cl l) (hl : l.length ≤ 1099511627776) (h0 : l ≠ []) (hz : lb l (l.length - 1) ≠ 0) {H : Mem} (hp : Hp H) {c : Nat} (hcn : cntOf H = 1099511627776 + c) : EX ip2 nv (.call F.whole_Clean [.d (.ag [.bool false, .sl 1 (us l)])] H) = some (.ret (.d (.ag [.bool false, .ref (1099511627776 + c) 1 0 l.length])) (hput ⟨0, false, us l⟩ H)) := by
  rw [S_call Wwhole_Clean.ip rfl]
  have cl := clean_w (nv := nv) l hc hl h0 hz hp
  obtain ⟨H1, hH1⟩ : ∃ x, hput ⟨0, false, us l⟩ H = x := ⟨_, rfl⟩
  have hge : 1099511627776 ≤ cntOf H := by omega
  have hp1 : Hp H1 := hH1 ▸ hp.hput (by omega) _
  have sg := sign_w (nv := nv) (1099511627776 + c) l.length H1 hp1
  have g1 : ∀ v x y, hput v ((1, x) :: (2, y) :: H) = (1, x) :: (2, y) :: hput v H := fun v x y => by
    rw [hput_lit (by decide) (by rw [cntOf_lit (by decide)]; exact hge), hput_lit (by decide) hge]
  have f1 : aget H1 (1099511627776 + c) = some ⟨0, false, us l⟩ := by
    rw [← hH1, aget_hput hge _ (by omega), hcn, if_pos rfl]
  rw [hH1]
  simp (disch := omega) [Wwhole_Clean, goU, upR, cl, sg, g1, hH1, f1, hcn, hge, hpart_cons, npart_cons, hp.aget, hp.aput, hp.adel, hp.hpart, hp.npart, hp1.aget, hp1.aput, hp1.adel, hp1.hpart, hp1.npart, hp1.keeps]
end
end Go.Proofs.YtgigaimaaijalaaDoor
