/- Arrays of blocks, and a step written into a log. -/
import Derived.Test.YtkmalbaollffiaaStp
import Derived.Test.YtkmalbaollffiaaChg
import Derived.Test.YtkmalbaollffiaaBlk
set_option linter.all false
set_option maxRecDepth 100000
set_option maxHeartbeats 400000
namespace Go.Proofs.Ytkmalbaollffiaa
open Go.Am
variable {σ : Store} {Q : Value → Store → Prop} {g : Geo} {s : DS} {w : WS} {m : Nat}
theorem getG_put {o : List (Int × List Int)} (hn : (ordL o).Nodup) (x : Int) (b : List Int) (y : Int) : getG (putG o x b) y = if y = x then some b else getG o y := by
  have hn' : (ordL (putG o x b)).Nodup := by rw [ordL_put]; exact addL_nodup hn
  refine Option.ext fun b' => ?_
  rw [getG_iff hn', mem_putG]
  by_cases h : y = x
  · rw [if_pos h]
    constructor
    · rintro (⟨_, rfl⟩ | ⟨h1, _⟩)
      · rfl
      · exact absurd h h1
    · intro e; cases e; exact .inl ⟨h, rfl⟩
  · rw [if_neg h, getG_iff hn]
    constructor
    · rintro (⟨h1, _⟩ | ⟨_, h1⟩)
      · exact absurd h1 h
      · exact h1
    · exact fun e => .inr ⟨h, e⟩
/-- What a change of a step is answered. -/
theorem write_want (hW : WOk w) (ho : w.opn = true) (x : Int) (b : List Int) :
    (w.write x b).1 = if x < 1 + w.g.log ∨ w.g.blocks ≤ x then 2 else if x ∉ w.wrote ∧ (w.wrote.length : Int) = w.room then 181 else 0 := by
  unfold WS.write
  rw [if_neg (by rw [ho]; decide)]
  by_cases h : x < 1 + w.g.log ∨ w.g.blocks ≤ x
  · rw [if_pos h, if_pos h]
  · rw [if_neg h, if_neg h]
    have := (hW.wrote ho).1
    by_cases h2 : x ∉ w.wrote ∧ w.room ≤ (w.wrote.length : Int)
    · rw [if_pos h2, if_pos ⟨h2.1, by omega⟩]
    · rw [if_neg h2, if_neg (fun e => h2 ⟨e.1, by omega⟩)]
/-- A step of a fresh log, as far as it is written; the blocks as they are. -/
structure Sp (l d nid : Nat) (g : Geo) (r : Int) (A0 : List Nat) (sB : Store) (w : WS) (xv : Value) (now : List Int) (st : Store) : Prop where
  ex : ∃ F G, Log st l d w (fresh0 g) F ∧ Disk st d (fresh0 g) G ∧ Apart F G ∧ Apart (F ++ G) (nid :: idsV xv) ∧ Upd (A0 ++ [nid]) sB st ((F ++ G) ++ (nid :: idsV xv))
  sl : SlG st 1 xv w.wrote.length (ic w.wrote)
  nn : nid ∉ idsV xv
  arr : st.get nid = some (.cells (bc now) none)
  nl : now.length = g.blocks.toNat * 1024
  nv : ∀ x : Nat, x < g.blocks.toNat → (now.drop (x * 1024)).take 1024 = w.at (fresh0 g) x
  wg : w.g = g
  wo : w.opn = true
  wr : w.room = r
  wm : w.mine = 1
  ord : ordL w.grp = w.wrote
  cnt : w.commits = 0 ∧ w.steps = 0
theorem Sp.ok {l d nid : Nat} {r : Int} {A0 : List Nat} {sB st : Store} {xv : Value} {now : List Int} (h : Sp l d nid g r A0 sB w xv now st) : WOk w := by
  obtain ⟨F, G, h1, _⟩ := h.ex
  exact h1.ok
end Go.Proofs.Ytkmalbaollffiaa
