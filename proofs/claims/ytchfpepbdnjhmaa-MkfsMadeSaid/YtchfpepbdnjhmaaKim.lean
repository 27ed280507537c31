/- Images that stand beside disks; a disk that rests. -/
import Derived.Test.YtchfpepbdnjhmaaKmk
import Derived.Test.YtchfpepbdnjhmaaIm23
set_option linter.all false
set_option maxRecDepth 100000
set_option maxHeartbeats 400000
namespace Go.Proofs.Ytchfpepbdnjhmaa
open Go.Am
variable {σ st st' : Store} {d m : Nat} {s r : DS} {l : List (Nat × DS)} {os : List (Nat × SObj)} {g : Geo} {Q : Value → Store → Prop} {v : Value} {L : List HB}
def imgO (v : Value) (L : List HB) : List (Nat × SObj) := (idsV v).map fun j => (j, .cells (waitC L) (some 1025))
theorem Dks.sl (h : Dks σ st l os) (hs : ∀ p ∈ imgO v L, p ∈ os) {st0 : Store} (h0 : SlG st0 1025 v L.length (waitC L)) : SlG st 1025 v L.length (waitC L) := by
  refine ⟨h0.1, ?_⟩
  rcases h0.2 with h1 | ⟨i, rfl, h2, h3⟩
  · exact .inl h1
  · refine .inr ⟨i, rfl, ?_, h3⟩
    exact h.get (hs (i, .cells (waitC L) (some 1025)) (by simp [imgO, idsV]))
theorem kimg_ (h : Dks σ st ((d, s) :: l) os) (hC : s.C m) (hW : s.W) (hq : ∀ L st' v, HeldL s.held L → Dks σ st' ((d, s) :: l) (imgO v L ++ os) → SlG st' 1025 v L.length (waitC L) → Q (.agg ⟨[.int .i64 s.n, v]⟩) st') : Does Try.prog 18 [.pointer (some ⟨d, 0, none⟩)] st Q := by
  have h0 := h
  obtain ⟨h1, A, h2, h3⟩ := h
  refine kimage_ h0 hC hW fun L st' v hL hD hv hi k => hq L st' v hL ?_ hv
  refine ⟨h1.trans k, A, h2.frame fun j hj => k.2 j (h2.lt j hj), fun p hp => ?_⟩
  rcases List.mem_append.1 hp with hp | hp
  · obtain ⟨j, hj, rfl⟩ := List.mem_map.1 hp
    refine ⟨fun hx => by have := h2.lt j hx; have := hi j hj; omega, ?_⟩
    rcases hv.2 with ⟨_, rfl⟩ | ⟨i, rfl, h4, _⟩
    · simp [idsV] at hj
    · have : j = i := by simpa [idsV] using hj
      rw [this]; exact h4
  · exact ⟨(h3 p hp).1, k.get (h3 p hp).2⟩
/-- A disk on which nothing waits. -/
structure Stl (n : Int) (H : Int → Option (List Int)) (mk : Int) (m : Nat) (r : DS) : Prop where
  C : r.C m
  W : r.W
  n : r.n = n
  dead : r.dead = false
  fuse : r.fuse < 0
  wait : r.wait = []
  held : r.held = H
  made : r.made = mk
variable {n : Int} {H : Int → Option (List Int)} {mk : Int}
theorem Stl.read (h : Stl n H mk m r) {i : Int} (hi : 0 ≤ i ∧ i < n) : (r.read i).1 = (H i).getD zb ∧ (r.read i).2.1 = 0 ∧ Stl n H mk (m + 1) (r.read i).2.2 := by
  have e : r.read i = ((H i).getD zb, 0, { r with reads := r.reads + 1 }) := by
    unfold DS.read
    rw [if_neg (by rw [h.dead]; decide), if_neg (by rw [h.n]; omega)]
    unfold DS.at
    rw [h.wait, h.held]; rfl
  have C2 := read_C h.C (i := i)
  have W2 := read_W h.W (i := i)
  rw [e] at C2 W2 ⊢
  exact ⟨rfl, rfl, C2, W2, h.n, h.dead, h.fuse, h.wait, h.held, h.made⟩
theorem Stl.mkfs (h : Stl n H mk m r) (hg : g.ok) (hn : g.blocks ≤ n) : (r.mkfs g).1 = 0 ∧ Stl n (doneF g H) (mk + mkL g) (m + 1 + mkL g) (r.mkfs g).2 := by
  obtain ⟨a1, a2, a3, a4, a5, a6, a7, a8, a9⟩ := mkfs_live hg (by rw [h.n]; exact hn) h.dead h.fuse h.wait h.C h.W
  exact ⟨a1, a8, a9, by rw [a6, h.n], a5, a7, a3, by rw [a2, h.held], by rw [a4, h.made]⟩
theorem Stl.load {L : List HB} (hok : okIm n L) (hl : ∀ p ∈ L, p.2.length = 1024) : Stl n (DS.load n L).held 0 0 (DS.load n L) := ⟨load_C hok hl, load_W hok, rfl, rfl, by show (-1 : Int) < 0; decide, rfl, rfl, rfl⟩
theorem Stl.new (h : 1 ≤ n ∧ n ≤ 1048576) : Stl n (fun _ => none) 0 0 (DS.new n) := ⟨new_C h.1 h.2, new_W, rfl, rfl, by show (-1 : Int) < 0; decide, rfl, rfl, rfl⟩
theorem Stl.len (h : Stl n H mk m r) (x : Int) : ((H x).getD zb).length = 1024 := by
  have hh := h.C.ok.held x
  rw [h.held] at hh
  cases hx : H x with
  | none => exact zb_len
  | some b => exact hh b hx
end Go.Proofs.Ytchfpepbdnjhmaa
