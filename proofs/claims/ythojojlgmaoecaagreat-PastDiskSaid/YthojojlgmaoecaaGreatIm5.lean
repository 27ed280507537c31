/- past.image, whatever order its map is gone through. -/
import Derived.Test.YthojojlgmaoecaaGreatIma
set_option linter.all false
set_option maxRecDepth 100000
set_option maxHeartbeats 800000
namespace Go.Proofs.YthojojlgmaoecaaGreat
open Go.Am Go.Sort
variable {σ σ' : Store} {n : Int} {Q : Value → Store → Prop} {g : Int → Option (List Int)}
/-- What stood, and no more. -/
def stS (σ : Store) (N : Nat) (h : σ.next ≤ N) : Store where
  get j := if j < σ.next then σ.get j else none
  next := N
  fresh j hj := if_neg (by omega)
theorem image_ {m : Nat} (hm : MapAt σ m fun x => (g x).map bv) (hn : n ≤ 1048576) (hb : ∀ x b, g x = some b → 0 ≤ x ∧ x < n) (hl : ∀ x b, g x = some b → b.length = 1024)
    (hq : ∀ L v σ', HeldL (nbF g) L → Keeps σ σ' → SlG σ' 1025 v L.length (waitC L) → (∀ i ∈ idsV v, σ.next ≤ i) → Q (.agg ⟨[.int .i64 n, v]⟩) σ') :
    Does Tryz.prog 29 [.int .i64 n, .map (some m)] σ Q := by
  obtain ⟨l, ck, hg, hck, hf⟩ := hm
  have hf : ∀ x, eget l x = (g x).map bv := hf
  have hb2 : ∀ x b, g x = some b → 0 ≤ x ∧ x < 1099511627776 := fun x b h => by have := hb x b h; omega
  have hsz : l.length < 2 ^ 30 := by
    have h1 := nodup_ints (l := keysE l) hck.1 (n := n) fun x hx => by
      obtain ⟨p, hp, rfl⟩ := List.mem_map.1 hx
      have h1 := eget_mem hck.1 p hp
      rw [hf] at h1
      cases hc : g p.1 with
      | none => rw [hc] at h1; cases h1
      | some b => exact hb _ _ hc
    have h2 : (keysE l).length = l.length := by simp [keysE]
    rcases h1 with h1 | h1
    · omega
    · rw [h1] at h2; simp at h2; omega
  have hD := image_D (n := n) hg hck hf hb2 hl hsz
  obtain ⟨L, hL⟩ : ∃ L, L = srt (ltOf fun x y : HB => kP x - kP y) (ofN l) := ⟨_, rfl⟩
  have hH := srt_nb hck.1 hf hb2 (List.Perm.refl l)
  rw [← hL] at hH
  have hN : σ.next ≤ σ.next + 3 + l.length + 2 * L.length := by omega
  have hwl : (waitC L).length = L.length * 1025 := by
    have h1 : ∀ p ∈ L, p.2.length = 1024 := fun p hp => by
      have h1 := (hH.mem p).1 hp
      unfold nbF at h1
      cases hfq : g p.1 with
      | none => rw [hfq] at h1; cases h1
      | some b =>
        rw [hfq] at h1
        have h1 : (if b = zb then none else some b) = some p.2 := h1
        split at h1
        · cases h1
        · rw [← Option.some.inj h1]; exact hl _ _ hfq
    rw [← flat_wait h1, flatL_len encH_len]
  by_cases h0 : L = []
  · refine DoesD.does (σ' := stS σ _ hN) (r := .agg ⟨[.int .i64 n, .slice none 0 0]⟩) hN (DoesD.mono_ hD ?_) ?_
    · rintro r st ⟨L', v, h1, rfl, h2, h3, h4, h5⟩
      obtain rfl := h1.uniq hH
      refine ⟨?_, h2, fun i o hi => ?_⟩
      · rcases h3.2 with ⟨_, e⟩ | ⟨i, _, _, e⟩
        · rw [e]
        · rw [h0] at e; simp at e
      · have hi : (if i < σ.next then σ.get i else none) = some o := hi
        split at hi
        · rename_i hlt; rw [h5 i hlt, hi]
        · cases hi
    · refine hq L _ _ hH ⟨hN, fun j hj => if_pos hj⟩ ?_ fun i hi => by simp [idsV] at hi
      have e : ∀ (st : Store) (M : List HB), M = [] → SlG st 1025 (.slice none 0 0) M.length (waitC M) := by rintro st M rfl; exact SlG.nil
      exact e _ L h0
  · have hpos : 0 < L.length := List.length_pos_iff.2 h0
    refine DoesD.ren (c := waitC L) (g := some 1025) (F := fun a => .agg ⟨[.int .i64 n, .slice (some ⟨a, 0, some 1025⟩) L.length L.length]⟩) hN (DoesD.mono_ hD ?_) (fun a M M' v h1 h2 h3 => vr_list h1 h2 h3) ?_
    · rintro r st ⟨L', v, h1, rfl, h2, h3, h4, h5⟩
      obtain rfl := h1.uniq hH
      rcases h3.2 with ⟨e, _⟩ | ⟨i, rfl, h6, _⟩
      · omega
      · exact ⟨i, rfl, h4 i (by simp [idsV]), h2, h6, fun j o hj => by rw [h5 j (Store.lt_of_get hj), hj]⟩
    · refine hq L _ _ hH ⟨by show σ.next ≤ _ + 1; omega, fun j hj => ?_⟩ ⟨hwl, .inr ⟨_, rfl, if_pos rfl, hpos⟩⟩ fun i hi => by have : i = σ.next + 3 + l.length + 2 * L.length := (by simpa [idsV] using hi); omega
      show (if j = _ then _ else if j < σ.next then σ.get j else none) = _
      rw [if_neg (by omega), if_pos hj]
end Go.Proofs.YthojojlgmaoecaaGreat
