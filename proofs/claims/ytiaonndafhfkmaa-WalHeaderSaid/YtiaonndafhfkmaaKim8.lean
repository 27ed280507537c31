/- Images that stand beside disks; a disk that rests. -/
import Derived.Test.YtiaonndafhfkmaaIm8
set_option linter.all false
set_option maxRecDepth 100000
set_option maxHeartbeats 400000
namespace Go.Proofs.Ytiaonndafhfkmaa
open Go.Am
variable {σ st st' : Store} {d m : Nat} {s r : DS} {l : List (Nat × DS)} {os : List (Nat × SObj)} {g : Geo} {Q : Value → Store → Prop} {v : Value} {L : List HB}
def imgO (v : Value) (L : List HB) : List (Nat × SObj) := (idsV v).map fun j => (j, .cells (waitC L) (some 1025))
theorem Dks.sl (h : Dks σ st l os) (hs : ∀ p ∈ imgO v L, p ∈ os) {st0 : Store} (h0 : SlG st0 1025 v L.length (waitC L)) : SlG st 1025 v L.length (waitC L) := by
  refine ⟨h0.1, ?_⟩
  rcases h0.2 with h1 | ⟨i, rfl, h2, h3⟩
  · exact .inl h1
  · refine .inr ⟨i, rfl, ?_, h3⟩
    exact h.get (hs (i, .cells (waitC L) (some 1025)) (by simp [imgO, idsV]))
theorem kimg_ (h : Dks σ st ((d, s) :: l) os) (hC : s.C m) (hW : s.W) (hq : ∀ L st' v, HeldL s.held L → Dks σ st' ((d, s) :: l) (imgO v L ++ os) → SlG st' 1025 v L.length (waitC L) → Q (.agg ⟨[.int .i64 s.n, v]⟩) st') : Does Try.prog 30 [.pointer (some ⟨d, 0, none⟩)] st Q := by
  have h0 := h
  obtain ⟨h1, A, h2, h3⟩ := h
  refine kimage_ h0 hC hW fun L st' v hL hD hv hi k => hq L st' v hL ?_ hv
  refine ⟨h1.trans k, A, h2.frame fun j hj => k.2 j (h2.lt j hj), fun p hp => ?_⟩
  rcases List.mem_append.1 hp with hp | hp
  · obtain ⟨j, hj, rfl⟩ := List.mem_map.1 hp
    refine ⟨fun hx => by have := h2.lt j hx; have := hi j hj; omega, ?_⟩
    rcases hv.2 with ⟨_, rfl⟩ | ⟨i, rfl, h4, _⟩
    · simp [idsV] at hj
    · have : j = i := by simpa [idsV] using hj
      rw [this]; exact h4
  · exact ⟨(h3 p hp).1, k.get (h3 p hp).2⟩
end Go.Proofs.Ytiaonndafhfkmaa
