/- The abstract machine, part 17: a region that draws its order. No program in sight. -/
import Derived.Test.YtfcefiabbdakgaaAm16
set_option linter.all false
namespace Go.Am
open Go.RowKit
variable {P : Program} {ds : List Deferred}

section
variable {ops : Array Oper} {b : Array Nat} {L : List Nat} {A : Nat → Value} {acts : Nat → List Value} {C S : Nat → Store}
theorem closed_set {listed : Array Bool} (hc : Closed ops listed) {j : Nat} {o : Oper} (ho : ops[j]? = some o) (hall : ∀ e ∈ o.after, Region.binds .any e = true → listed.getD e.on false = true) : Closed ops (listed.setIfInBounds j true) := by
  intro k o' hk ho' e he hb
  by_cases e1 : k = j
  · subst e1
    rw [ho] at ho'; cases ho'
    exact getD_set_true (hall e he hb)
  · rw [getD_set_ne false (Ne.symm e1)] at hk
    exact getD_set_true (hc k o' hk ho' e he hb)
theorem ready_of_unlisted (hg : Good ops b L) {listed : Array Bool} (hsz : listed.size = ops.size) : ∀ (q i : Nat), L[q]? = some i → i < ops.size → listed.getD i true = false → Region.ready .any ops listed ≠ [] := by
  intro q
  induction q using Nat.strongRecOn with
  | ind q ih =>
    intro i hq hi hun
    obtain ⟨o, ho⟩ : ∃ o, ops[i]? = some o := ⟨ops[i], Array.getElem?_eq_getElem hi⟩
    by_cases hall : ∀ e ∈ o.after, Region.binds .any e = true → listed.getD e.on false = true
    · intro h0
      have : i ∈ Region.ready .any ops listed := mem_ready.2 ⟨hun, o, ho, hall⟩
      rw [h0] at this; cases this
    · simp only [Classical.not_forall] at hall
      obtain ⟨e, he, hb, hne⟩ := hall
      obtain ⟨q', h1, h2⟩ := hg.topo q i o hq ho e he hb
      by_cases hs : e.on < ops.size
      · refine ih q' h1 e.on h2 hs ?_
        have : e.on < listed.size := by omega
        simp [Array.getElem?_eq_getElem this] at hne ⊢
        exact hne
      · exact absurd (hg.bound q' e.on h2) hs

variable (hst : ∀ q, q < L.length → StepOk P ops b L A acts C S q) (hg : Good ops b L) (hok : ∀ o ∈ ops.toList, okOp P o = true) {w0 : World} {M0 : Places} {Q : Exit → Act → World → Prop}
include hst hg hok
theorem wpAny_inv (hQ : ∀ listed a w p M N, (∀ q, q < L.length → Done L listed q) → Inv P ops L A acts C S ds w0 M0 listed a w p M N → Q .normal a w) : ∀ (n : Nat) (l : List Nat) (listed : Array Bool) (a : Act) (w : World) (p : Nat) (M N : Places),
    l.length = n → listed.size = ops.size → (∀ k, k < ops.size → (listed.getD k true = false ↔ k ∈ l)) → (∀ k ∈ l, k < ops.size) → l.Nodup → Closed ops listed → Inv P ops L A acts C S ds w0 M0 listed a w p M N → wpAny P .any ops Q n listed a w
  | 0, l, listed, a, w, p, M, N, hl, hsz, hun, hlt, hnd, hc, h => by
    cases l with
    | cons x xs => simp at hl
    | nil =>
      refine ⟨?_, hQ listed a w p M N (fun q hq => ?_) h⟩
      · cases hr : Region.ready .any ops listed with
        | nil => rfl
        | cons x xs =>
          have hx : x ∈ Region.ready .any ops listed := by rw [hr]; exact List.mem_cons_self
          obtain ⟨h0, o, hxo, _⟩ := mem_ready.1 hx
          have := (hun x (Array.getElem?_eq_some_iff.1 hxo).1).1 h0
          simp at this
      · have hLq : L[q]? = some L[q] := List.getElem?_eq_getElem hq
        obtain ⟨i, o, g1, g2, _⟩ := hst q hq
        have hi := (Array.getElem?_eq_some_iff.1 g2).1
        refine ⟨i, g1, ?_⟩
        have := hun i hi
        have hil : i < listed.size := by omega
        simp [Array.getElem?_eq_getElem hil] at this ⊢
        exact this
  | n + 1, l, listed, a, w, p, M, N, hl, hsz, hun, hlt, hnd, hc, h => by
    refine ⟨fun h0 => ?_, fun j hj => ?_⟩
    · exfalso
      cases l with
      | nil => simp at hl
      | cons x xs =>
        have hxl := hlt x List.mem_cons_self
        obtain ⟨q, hq⟩ := hg.all x hxl
        exact ready_of_unlisted hg hsz q x hq hxl ((hun x hxl).2 List.mem_cons_self) h0
    · obtain ⟨hju, oj, hoj, hall⟩ := mem_ready.1 hj
      have hjs : j < ops.size := (Array.getElem?_eq_some_iff.1 hoj).1
      obtain ⟨q0, hq0⟩ := hg.all j hjs
      have hjl : j ∈ l := (hun j hjs).1 hju
      refine h.step_ hst hg hc hq0 hoj hju hall (hok oj (by rw [← Array.mem_def]; exact Array.mem_of_getElem? hoj)) fun a' w' p' M' N' h' => ?_
      refine wpAny_inv hQ n (l.erase j) _ a' w' p' M' N' (by rw [List.length_erase_of_mem hjl]; omega) (by simpa using hsz) (fun k hk => ?_) (fun k hk => hlt k (List.mem_of_mem_erase hk)) (hnd.erase j) (closed_set hc hoj hall) h'
      by_cases hkj : k = j
      · subst hkj
        have hks : k < listed.size := by omega
        constructor
        · intro hf; simp [hks] at hf
        · intro hm; exact absurd hm (List.Nodup.not_mem_erase hnd)
      · rw [getD_set_ne true (Ne.symm hkj), hun k hk, List.mem_erase_of_ne hkj]
omit hok in
theorem Inv.final {listed : Array Bool} {a : Act} {w : World} {p : Nat} {M N : Places} (hd : ∀ q, q < L.length → Done L listed q) (h : Inv P ops L A acts C S ds w0 M0 listed a w p M N) :
    ∃ M', ActR ds M' (acts L.length) a ∧ Rel M' (C L.length) w ∧ Step (C 0) M0 w0 (C L.length) M' w := by
  obtain ⟨b1, b2, _⟩ := h.absorb hst L.length h.pn (Nat.le_refl _) hd fun q i h1 h2 hi => h.high q i h1 (hd q h2) hi
  refine ⟨_, ⟨fun t v hv => ?_, h.defers⟩, b1, b2⟩
  have ht : t < (acts 0).length := by
    have := (List.getElem?_eq_some_iff.1 hv).1
    rw [acts_len hst _ (Nat.le_refl _)] at this
    exact this
  have hget : aget (acts L.length) t = v := by simp [aget, hv]
  obtain ⟨v', h1, h2⟩ := h.tmp t ht
  refine ⟨v', h1, ?_⟩
  rw [← hget]
  rcases h2 with ⟨q, d1, d2, d3, d4⟩ | ⟨d1, d2⟩
  · rcases last_writer hst ht L.length (Nat.le_refl _) with ⟨q', e1, e2, e3, e4⟩ | ⟨e1, _⟩
    · have h3 := e4 q d1.lt d2
      have h4 := d3 q' (hd q' e1) e2
      have : q' = q := by omega
      subst this
      rw [e3]
      exact d4.mono (below_le N (next_le hst (by omega) (Nat.le_refl _)))
    · exact absurd d2 (e1 q d1.lt)
  · rcases last_writer hst ht L.length (Nat.le_refl _) with ⟨q', e1, e2, _, _⟩ | ⟨_, e2⟩
    · exact absurd e2 (d1 q' (hd q' e1))
    · rw [e2]
      exact d2.mono (below_le N (next_le hst (Nat.zero_le _) (Nat.le_refl _)))
end

theorem draw_sound {M : Places} {σ : Store} {w : World} {id : Nat} {ops : Array Oper} {K : List Value → Store → Prop} {Q : Exit → Act → World → Prop} (hok : okDraw P ops = true) {act : List Value} {a : Act} (hact : ActR ds M act a) (hr : Rel M σ w)
    (h : drawOps (PI P) P ops (CheckFast.beforeF ops) (canon ops (CheckFast.beforeF ops)) K act [σ] σ [])
    (hq : ∀ act' σ' M' w' a', K act' σ' → ActR ds M' act' a' → Rel M' σ' w' → Step σ M w σ' M' w' → Q .normal a' w') : (Code.region id ops true).wp P Q a w := by
  obtain ⟨h1, h2, hg⟩ := good_of_ok hok
  obtain ⟨A, acts, C, S, e1, e2, e3, e4, e5, _⟩ := extract (L := canon ops (CheckFast.beforeF ops)) (canon ops (CheckFast.beforeF ops)) [] act [σ] σ [] (by simp) (by simp [effCount]) h
  simp only [List.length_nil] at e1 e2 e5
  have hst := fun q hq => e5 q (Nat.zero_le _) hq
  refine wp_region_any h1 ?_
  have hr' : Rel M (C 0) { w with drawn := w.drawn + 1 } := by rw [e2]; exact hr.of_heap rfl
  have hbel : below M (C 0).next = M := by
    funext i
    unfold below
    split
    · rfl
    · rename_i hi; exact (hr'.dom i (by omega)).symm
  have hnd : ∀ q, ¬ Done (canon ops (CheckFast.beforeF ops)) (Array.replicate ops.size false) q := by
    rintro q ⟨i, _, hi⟩
    by_cases hs : i < ops.size
    · simp [hs] at hi
    · simp [hs] at hi
  refine wpAny_inv (ds := ds) hst hg h2 (w0 := { w with drawn := w.drawn + 1 }) (M0 := M) (Q := Q) (fun listed a' w' p M' N hd hinv => ?_) ops.size (List.range ops.size) _ a _ 0 M M (by simp) (by simp) (fun k hk => by simp [hk]) (fun k hk => List.mem_range.1 hk) List.nodup_range
    (fun k o hk => by
      exfalso
      by_cases hs : k < ops.size
      · simp [hs] at hk
      · simp [hs] at hk) ?_
  · obtain ⟨M2, k1, k2, k3⟩ := hinv.final hst hg hd
    rw [e2] at k3
    exact hq _ _ M2 w' a' e4 k1 k2 ((Step.of_heap (w := w) (w' := { w with drawn := w.drawn + 1 }) rfl rfl rfl rfl).trans k3)
  · refine ⟨Nat.zero_le _, ?_, fun q hq => absurd hq (Nat.not_lt_zero _), fun q i _ hd => absurd hd (hnd q), hr', fun _ _ => rfl, fun q ob _ hd => absurd hd (hnd q), fun q _ _ _ _ _ _ _ _ hd => absurd hd (hnd q), fun i hi hn => absurd (hr'.dom i hi) hn, fun t ht => ?_, hact.none_, Step.refl _ _ _⟩
    · rw [e2]
      exact (e3 _ σ (by simp [effCount])).symm
    · rw [e1] at ht
      obtain ⟨v', k1, k2⟩ := hact.vals t act[t] (List.getElem?_eq_getElem ht)
      refine ⟨v', k1, .inr ⟨fun q hd => absurd hd (hnd q), ?_⟩⟩
      rw [hbel, e1]
      simpa [aget, ht] using k2
end Go.Am
