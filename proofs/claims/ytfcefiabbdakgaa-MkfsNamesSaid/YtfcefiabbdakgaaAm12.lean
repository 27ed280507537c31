/- The abstract machine, part 12: a region in the order of its text is as the model has it. No program in sight. -/
import Derived.Test.YtfcefiabbdakgaaAm11
set_option linter.all false
namespace Go.Am
open Go.RowKit
variable {P : Program} {M : Places} {σ : Store} {w : World} {ds : List Deferred}

theorem doAct_sound0 {o : Oper} {act : List Value} {a : Act} {K1 : Value → Store → Prop} {K : Act → World → Prop} {Q : Exit → Act → World → Prop} (hok : okOp P o = true) (hops : ∀ x ∈ o.op.operands.toList, VR M false (aev act x) (a.eval x)) (hr : Rel M σ w) (h : doAct (PI P) (action P o (aev act)) σ K1)
    (hk : ∀ v v' σ' M' w', K1 v σ' → VR M' false v v' → Rel M' σ' w' → Step σ M w σ' M' w' → K (a.put o.dst v') w') : o.wp P a w K Q := by
  cases hA : action P o (aev act) with
  | none => rw [hA] at h; exact h.elim
  | some A =>
    rw [hA] at h
    have hs := op_sound hok hops hA
    unfold Oper.wp
    cases A with
    | val v =>
      obtain ⟨v', h1, h2⟩ := hs
      rw [h2]
      exact hk v v' σ M w h h1 hr (Step.refl _ _ _)
    | rd f =>
      simp only [doAct] at h
      split at h
      · rename_i v hv
        obtain ⟨v', h1, h2⟩ := hs σ w v hr hv
        rw [h2]
        exact hk v v' σ M w h h1 hr (Step.refl _ _ _)
      · exact h.elim
    | new ob mk =>
      obtain ⟨v', l, w', x, h1, h2, h3, h4, h5, h6, h7, h8⟩ := hs.2 w
      obtain ⟨a1, a2⟩ := hr.push hs.1 h2 h3 h4 h6 h7 h8
      rw [h1]
      exact hk (mk σ.next) v' _ _ w' h (h5 _ _ (Places.upd_same _ _ _)) a1 a2
    | eff f =>
      simp only [doAct] at h
      split at h
      · rename_i v σ' hv
        obtain ⟨M', n', w', v', h1, h2, h3, h4, h5⟩ := hs σ w v σ' hr hv
        rw [h1]
        rcases h2 with rfl | ⟨rfl, rfl⟩
        · exact hk v v' σ' M' w' h h3 h4 h5
        · exact hk v undef σ' M' w' h h3 h4 h5
      · exact h.elim
    | call f args =>
      obtain ⟨cargs, h1, h2⟩ := hs
      obtain ⟨r, σ', h3, h4⟩ := h
      rw [h2]
      refine Calls.mono (h3.2 M w cargs hr h1) ?_
      rintro e w' ⟨M', v, rfl, h5, h6, h7⟩
      exact hk r v σ' M' w' h4 h5 h6 h7

theorem okOp_operand {o : Oper} (hok : okOp P o = true) {x : Operand} (hx : x ∈ o.op.operands.toList) : okOperand x = true := by
  unfold okOp at hok
  simp only [Bool.and_eq_true, List.all_eq_true] at hok
  exact hok.1 x hx
theorem doAct_sound {o : Oper} {act : List Value} {a : Act} {K1 : Value → Store → Prop} {K : Act → World → Prop} {Q : Exit → Act → World → Prop} (hok : okOp P o = true) (hact : ActR ds M act a) (hr : Rel M σ w) (h : doAct (PI P) (action P o (aev act)) σ K1)
    (hk : ∀ v v' σ' M' w', K1 v σ' → VR M' false v v' → Rel M' σ' w' → Step σ M w σ' M' w' → K (a.put o.dst v') w') : o.wp P a w K Q :=
  doAct_sound0 hok (fun _ hx => hact.ev (okOp_operand hok hx)) hr h hk

theorem seqOps_sound {ops : Array Oper} {Q : Exit → Act → World → Prop} (hok : ∀ o ∈ ops.toList, okOp P o = true) : ∀ (n k : Nat) (K : List Value → Store → Prop) (act : List Value) (σ : Store) (M : Places) (w : World) (a : Act), k + n = ops.size →
    ActR ds M act a → Rel M σ w → seqOps (PI P) P ops (ops.toList.drop k) K act σ →
    (∀ act' σ' M' w' a', K act' σ' → ActR ds M' act' a' → Rel M' σ' w' → Step σ M w σ' M' w' → Q .normal a' w') → wpOps P ops Q (List.range' k n) a w
  | 0, k, K, act, σ, M, w, a, hn, hact, hr, h, hq => by
    rw [List.drop_eq_nil_of_le (by simp; omega)] at h
    exact hq act σ M w a h hact hr (Step.refl _ _ _)
  | n + 1, k, K, act, σ, M, w, a, hn, hact, hr, h, hq => by
    have hk : k < ops.toList.length := by simp; omega
    rw [List.drop_eq_getElem_cons hk] at h
    obtain ⟨o, ho⟩ : ∃ o, o = ops.toList[k] := ⟨_, rfl⟩
    rw [← ho] at h
    have hok' : okOp P o = true := hok o (by rw [ho]; exact List.getElem_mem hk)
    have hget : ops[k]? = some o := by rw [ho]; simp
    rw [List.range'_succ]
    unfold wpOps
    rw [hget]
    simp only
    unfold seqOps at h
    simp only at h
    cases hg : guardA ops act o with
    | none => rw [hg] at h; exact h.elim
    | some b =>
      rw [hg] at h
      have hw := hact.guard hg
      cases b with
      | true =>
        rw [if_pos hw]
        refine .inl (doAct_sound hok' hact hr h fun v v' σ' M' w' h1 h2 h3 h4 => ?_)
        exact seqOps_sound hok n (k + 1) K (aput act o.dst v) σ' M' w' (a.put o.dst v') (by omega) ((hact.mono h4.le).put o.dst h2) h3 h1 fun act' σ2 M2 w2 a2 k1 k2 k3 k4 => hq act' σ2 M2 w2 a2 k1 k2 k3 (h4.trans k4)
      | false =>
        rw [if_neg (by rw [hw]; simp)]
        exact seqOps_sound hok n (k + 1) K (aput act o.dst gone) σ M w (a.put o.dst undef) (by omega) (hact.put o.dst .gone) hr h hq
theorem seq_sound {id : Nat} {ops : Array Oper} {K : List Value → Store → Prop} {Q : Exit → Act → World → Prop} (hok : ∀ o ∈ ops.toList, okOp P o = true) {act : List Value} {a : Act} (hact : ActR ds M act a) (hr : Rel M σ w) (h : seqOps (PI P) P ops ops.toList K act σ)
    (hq : ∀ act' σ' M' w' a', K act' σ' → ActR ds M' act' a' → Rel M' σ' w' → Step σ M w σ' M' w' → Q .normal a' w') : (Code.region id ops false).wp P Q a w := by
  refine wp_region ?_
  rw [List.range_eq_range']
  exact seqOps_sound hok ops.size 0 K act σ M w a (by omega) hact hr (by simpa using h) hq
end Go.Am
