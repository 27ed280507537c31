/- A disk that was made meanwhile, and objects beside it, in one. -/
import Derived.Test.YtelnpbgkgcollaaIm2
import Derived.Test.YtelnpbgkgcollaaLod
set_option linter.all false
set_option maxRecDepth 100000
set_option maxHeartbeats 400000
namespace Go.Proofs.Ytelnpbgkgcollaa
open Go.Am
variable {σ σ' st st' : Store} {d m : Nat} {s : DS} {Q : Value → Store → Prop} {os : List (Nat × SObj)}
/-- Since σ a disk was made, in state s; beside it stand these objects; what σ had stands. -/
def Bun (σ st : Store) (d : Nat) (s : DS) (os : List (Nat × SObj)) : Prop := ∃ F, Disk st d s F ∧ (∀ j ∈ F, σ.next ≤ j) ∧ Keeps σ st ∧ ∀ p ∈ os, p.1 ∉ F ∧ st.get p.1 = some p.2
theorem Bun.get (h : Bun σ st d s os) {j : Nat} {o : SObj} (hm : (j, o) ∈ os) : st.get j = some o := by
  obtain ⟨F, _, _, _, h4⟩ := h
  exact (h4 _ hm).2
theorem Bun.keeps (h : Bun σ st d s os) : Keeps σ st := by
  obtain ⟨F, _, _, h3, _⟩ := h
  exact h3
theorem Bun.later (h : Bun σ st d s os) (k : Keeps st st') : Bun σ st' d s os := by
  obtain ⟨F, h1, h2, h3, h4⟩ := h
  exact ⟨F, h1.later k, h2, h3.trans k, fun p hp => ⟨(h4 p hp).1, k.get (h4 p hp).2⟩⟩
theorem Bun.push (h : Bun σ st d s os) (o : SObj) : Bun σ (st.push o) d s ((st.next, o) :: os) := by
  obtain ⟨F, h1, h2, h3, h4⟩ := h
  have k := (Keeps.refl st).push o
  refine ⟨F, h1.later k, h2, h3.trans k, fun p hp => ?_⟩
  rcases List.mem_cons.1 hp with rfl | hp
  · refine ⟨fun hf => ?_, Store.get_push_same _ _⟩
    have := h1.lt _ hf
    simp at this
  · exact ⟨(h4 p hp).1, k.get (h4 p hp).2⟩
theorem Bun.less (h : Bun σ st d s os) {os' : List (Nat × SObj)} (hs : ∀ p ∈ os', p ∈ os) : Bun σ st d s os' := by
  obtain ⟨F, h1, h2, h3, h4⟩ := h
  exact ⟨F, h1, h2, h3, fun p hp => h4 p (hs p hp)⟩
theorem Bun.upd {F F' : List Nat} {s' : DS} (hD : Disk st d s F) (hF : ∀ j ∈ F, σ.next ≤ j) (hK : Keeps σ st) (hos : ∀ p ∈ os, p.1 ∉ F ∧ st.get p.1 = some p.2) (hD' : Disk st' d s' F') (hU : Upd F st st' F') : Bun σ st' d s' os := by
  refine ⟨F', hD', fun j hj => ?_, ⟨Nat.le_trans hK.1 hU.next, fun j hj => ?_⟩, fun p hp => ?_⟩
  · rcases (hU.ids j hj).2 with h | h
    · exact hF j h
    · exact Nat.le_trans hK.1 h
  · rw [hU.same j (Nat.lt_of_lt_of_le hj hK.1) (fun h => by have := hF j h; omega), hK.2 j hj]
  · obtain ⟨h1, h2⟩ := hos p hp
    have hlt := Store.lt_of_get h2
    refine ⟨fun h => ?_, by rw [hU.same _ hlt h1, h2]⟩
    rcases (hU.ids _ h).2 with h | h
    · exact h1 h
    · omega
theorem bnew_ {n : Int} (h0 : 1 ≤ n) (h1 : n ≤ 1048576) (os : List (Nat × SObj)) (hos : ∀ p ∈ os, σ.get p.1 = some p.2) (hq : ∀ st d, Bun σ st d (DS.new n) os → Q (.tuple #[.pointer (some ⟨d, 0, none⟩), .int .i64 0]) st) : Does Try.prog 24 [.int .i64 n] σ Q :=
  new_o h0 h1 fun st d F D U => hq st d ⟨F, D, fun j hj => by
    rcases (U.ids j hj).2 with h | h
    · cases h
    · exact h, ⟨U.next, fun j hj => U.same j hj (by simp)⟩, fun p hp => by
      have hlt := Store.lt_of_get (hos p hp)
      refine ⟨fun h => ?_, by rw [U.same _ hlt (by simp), hos p hp]⟩
      rcases (U.ids _ h).2 with h | h
      · cases h
      · omega⟩
theorem bwrite_ (h : Bun σ st d s os) (hC : s.C m) (hm : m < 2 ^ 29) {i : Int} {b : List Int} (hb : b.length = 1024) (hq : ∀ st', Bun σ st' d (s.write i b).2 os → Q (.int .i64 (s.write i b).1) st') : Does Try.prog 28 [.pointer (some ⟨d, 0, none⟩), .int .i64 i, .agg ⟨bc b⟩] st Q := by
  obtain ⟨F, h1, h2, h3, h4⟩ := h
  exact write_o h1 hC hm hb fun st' F' D U => hq st' (Bun.upd h1 h2 h3 h4 D U)
theorem bbar_ (h : Bun σ st d s os) (hC : s.C m) (hm : m < 2 ^ 29) (hq : ∀ st', Bun σ st' d s.barrier.2 os → Q (.int .i64 s.barrier.1) st') : Does Try.prog 27 [.pointer (some ⟨d, 0, none⟩)] st Q := by
  obtain ⟨F, h1, h2, h3, h4⟩ := h
  exact barrier_o h1 hC hm fun st' F' D U => hq st' (Bun.upd h1 h2 h3 h4 D U)
theorem bread_ (h : Bun σ st d s os) (hC : s.C m) (hm : m < 2 ^ 29) {i : Int} (hq : ∀ st', Bun σ st' d (s.read i).2.2 os → Q (.tuple #[.agg ⟨bc (s.read i).1⟩, .int .i64 (s.read i).2.1]) st') : Does Try.prog 15 [.pointer (some ⟨d, 0, none⟩), .int .i64 i] st Q := by
  obtain ⟨F, h1, h2, h3, h4⟩ := h
  exact read_o h1 hC hm fun st' D U => hq st' (Bun.upd h1 h2 h3 h4 D U)
theorem bfuse_ (h : Bun σ st d s os) (hC : s.C m) (hd : s.dead = false) (x : Int) (hq : ∀ st', Bun σ st' d (s.fused x) os → Q (.tuple #[]) st') : Does Try.prog 25 [.pointer (some ⟨d, 0, none⟩), .int .i64 x] st Q := by
  obtain ⟨F, h1, h2, h3, h4⟩ := h
  exact fuse_o h1 hC hd x fun st' D U => hq st' (Bun.upd h1 h2 h3 h4 D U)
theorem bfused_ (h : Bun σ st d s os) (hC : s.C m) (hd : s.dead = true) (x : Int) (hq : Q (.tuple #[]) st) : Does Try.prog 25 [.pointer (some ⟨d, 0, none⟩), .int .i64 x] st Q := by
  obtain ⟨F, h1, _⟩ := h
  exact fusedead_o h1 hC hd x hq
theorem bclaim_ (h : Bun σ st d s os) (hC : s.C m) (hm : m < 2 ^ 29) (hd : s.dead = false) (hq : ∀ st', Bun σ st' d s.claimed os → Q (.int .i64 (s.claims + 1)) st') : Does Try.prog 31 [.pointer (some ⟨d, 0, none⟩)] st Q := by
  obtain ⟨F, h1, h2, h3, h4⟩ := h
  exact claim_o h1 hC hm hd fun st' D U => hq st' (Bun.upd h1 h2 h3 h4 D U)
theorem bclaimdead_ (h : Bun σ st d s os) (hC : s.C m) (hd : s.dead = true) (hq : Q (.int .i64 0) st) : Does Try.prog 31 [.pointer (some ⟨d, 0, none⟩)] st Q := by
  obtain ⟨F, h1, _⟩ := h
  exact claimdead_o h1 hC hd hq
theorem bclaimed_ (h : Bun σ st d s os) (hC : s.C m) (n : Int) (hq : Q (.bool (s.mine n)) st) : Does Try.prog 32 [.pointer (some ⟨d, 0, none⟩), .int .i64 n] st Q := by
  obtain ⟨F, h1, _⟩ := h
  exact claimed_o h1 hC n hq
theorem blen_ (h : Bun σ st d s os) (hC : s.C m) (hq : Q (.int .i64 s.n) st) : Does Try.prog 13 [.pointer (some ⟨d, 0, none⟩)] st Q := by
  obtain ⟨F, h1, _⟩ := h
  exact len_o h1 hC hq
theorem bmade_ (h : Bun σ st d s os) (hC : s.C m) (hq : Q (.int .i64 s.made) st) : Does Try.prog 18 [.pointer (some ⟨d, 0, none⟩)] st Q := by
  obtain ⟨F, h1, _⟩ := h
  exact made_o h1 hC hq
theorem breads_ (h : Bun σ st d s os) (hC : s.C m) (hq : Q (.int .i64 s.reads) st) : Does Try.prog 19 [.pointer (some ⟨d, 0, none⟩)] st Q := by
  obtain ⟨F, h1, _⟩ := h
  exact reads_o h1 hC hq
theorem bstopped_ (h : Bun σ st d s os) (hC : s.C m) (hq : Q (.bool s.dead) st) : Does Try.prog 29 [.pointer (some ⟨d, 0, none⟩)] st Q := by
  obtain ⟨F, h1, _⟩ := h
  exact stopped_o h1 hC hq
theorem bpending_ (h : Bun σ st d s os) (hC : s.C m) (hm : m < 2 ^ 29) (hq : ∀ st' v, Bun σ st' d s os → lenSl v = some (.int .i64 (s.wait.length : Nat)) → Q v st') : Does Try.prog 20 [.pointer (some ⟨d, 0, none⟩)] st Q := by
  obtain ⟨F, h1, h2, h3, h4⟩ := h
  exact pending_o h1 hC hm fun st' v k hv _ => hq st' v (Bun.later ⟨F, h1, h2, h3, h4⟩ k) hv.len
theorem bhist_ (h : Bun σ st d s os) (hC : s.C m) (hm : m < 2 ^ 29) (hq : ∀ st' v, Bun σ st' d s os → lenSl v = some (.int .i64 (s.hist.length : Nat)) → Q v st') : Does Try.prog 21 [.pointer (some ⟨d, 0, none⟩)] st Q := by
  obtain ⟨F, h1, h2, h3, h4⟩ := h
  exact histlen_o h1 hC hm fun st' v k hv _ => hq st' v (Bun.later ⟨F, h1, h2, h3, h4⟩ k) hv.len
/-- The list of an image stands beside the disk. -/
theorem bimage_ (h : Bun σ st d s os) (hC : s.C m) (hW : s.W) (hq : ∀ L st' v, HeldL s.held L → Bun σ st' d s os → SlG st' 1025 v L.length (waitC L) → (∀ i ∈ idsV v, st.next ≤ i) → Q (.agg ⟨[.int .i64 s.n, v]⟩) st') : Does Try.prog 12 [.pointer (some ⟨d, 0, none⟩)] st Q := by
  obtain ⟨F, h1, h2, h3, h4⟩ := h
  exact image_o h1 hC hW fun L v st' hL k hv hi => hq L st' v hL (Bun.later ⟨F, h1, h2, h3, h4⟩ k) hv hi
theorem bcrash_ {v : Value} {ks : List Bool} (h : Bun σ st d s os) (hC : s.C m) (hm : m < 2 ^ 29) (hv : ∀ st', Keeps σ st' → (∀ p ∈ os, st'.get p.1 = some p.2) → SlR st' 1 v ks.length (bC ks)) (hq : ∀ st', Bun σ st' d (s.crash ks) os → Q (.int .i64 0) st') : Does Try.prog 30 [.pointer (some ⟨d, 0, none⟩), v] st Q := by
  obtain ⟨F, h1, h2, h3, h4⟩ := h
  refine crash_o h1 hC hm (fun st' hn hg => ?_) fun st' F' D U => hq st' (Bun.upd h1 h2 h3 h4 D U)
  refine hv st' ⟨Nat.le_trans h3.1 hn, fun j hj => ?_⟩ fun p hp => ?_
  · rw [hg j (Nat.lt_of_lt_of_le hj h3.1) (fun hf => by have := h2 j hf; omega), h3.2 j hj]
  · obtain ⟨p1, p2⟩ := h4 p hp
    rw [hg _ (Store.lt_of_get p2) p1, p2]
end Go.Proofs.Ytelnpbgkgcollaa
