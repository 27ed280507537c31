/- Arrays of blocks, and a step written into a log. -/
import Derived.Test.YtlogocelkpmkbaaStp
import Derived.Test.YtlogocelkpmkbaaChg
set_option linter.all false
set_option maxRecDepth 100000
set_option maxHeartbeats 400000
namespace Go.Proofs.Ytlogocelkpmkbaa
open Go.Am
variable {σ : Store} {Q : Value → Store → Prop} {g : Geo} {s : DS} {w : WS} {m : Nat}
/-- Bytes laid over others. -/
def layB (b : List Int) (x : Nat) (l : List Int) : List Int := b.take x ++ l ++ b.drop (x + l.length)
theorem layB_len {b l : List Int} {x : Nat} (h : x + l.length ≤ b.length) : (layB b x l).length = b.length := by
  simp [layB]; omega
theorem layB_at {b l : List Int} {x y : Nat} (hl : l.length = 1024) (h : (x + 1) * 1024 ≤ b.length) (hy : (y + 1) * 1024 ≤ b.length) : ((layB b (x * 1024) l).drop (y * 1024)).take 1024 = if y = x then l else (b.drop (y * 1024)).take 1024 := by
  have e : ∀ i, (layB b (x * 1024) l)[i]? = if i < x * 1024 then b[i]? else if i < x * 1024 + 1024 then l[i - x * 1024]? else b[i]? := fun i => by
    unfold layB
    by_cases h1 : i < x * 1024
    · rw [if_pos h1, List.append_assoc, List.getElem?_append_left (by rw [List.length_take]; omega), List.getElem?_take, if_pos h1]
    · rw [if_neg h1]
      by_cases h2 : i < x * 1024 + 1024
      · rw [if_pos h2, List.append_assoc, List.getElem?_append_right (by rw [List.length_take]; omega), List.getElem?_append_left (by rw [List.length_take]; omega), List.length_take, Nat.min_eq_left (by omega)]
      · rw [if_neg h2, List.getElem?_append_right (by rw [List.length_append, List.length_take]; omega), List.getElem?_drop, List.length_append, List.length_take, Nat.min_eq_left (by omega), hl]
        congr 1; omega
  refine List.ext_getElem? fun i => ?_
  by_cases hi : i < 1024
  · rw [List.getElem?_take, if_pos hi, List.getElem?_drop, e]
    by_cases hyx : y = x
    · subst hyx
      rw [if_neg (by omega), if_pos (by omega), if_pos rfl]
      congr 1; omega
    · rw [if_neg hyx, List.getElem?_take, if_pos hi, List.getElem?_drop]
      rcases Nat.lt_or_gt_of_ne hyx with hlt | hlt
      · rw [if_pos (by omega)]
      · rw [if_neg (by omega), if_neg (by omega)]
  · rw [List.getElem?_eq_none (by rw [List.length_take]; omega), List.getElem?_eq_none]
    split
    · omega
    · rw [List.length_take]; omega
theorem splice_bc (b l : List Int) (o : Nat) : splice (bc b) o (bc l) = bc (layB b o l) := by
  unfold splice layB
  cases o with
  | zero => simp [bc_drop, bc_app]
  | succ o => simp [bc_drop, bc_app, bc_take]
theorem store_bytes {i o n : Nat} {b l : List Int} {g : Option Nat} {σ : Store} (h : σ.get i = some (.cells (bc b) g)) (hl : l.length = n) (hb : o + n ≤ b.length) : storeV n (.pointer (some ⟨i, o, none⟩)) (.agg ⟨bc l⟩) σ = some (junk, σ.put i (some (.cells (bc (layB b o l)) g))) := by
  rw [store_cells h (vs := bc l) (by simp [asCells, cellsL, hl]) (by rw [bc_len]; exact hb), splice_bc]
theorem make_blocks {n : Nat} {k : IntKind} (h : n ≤ 10000) : makeS (bc zb) 1024 (.int k (n : Nat)) (.int k (n : Nat)) = some (.cells (bc (List.replicate (n * 1024) 0)) none, fun i => .slice (some ⟨i, 0, none⟩) n n) := by
  have h1 : (0 : Int) ≤ (n : Nat) ∧ ((n : Nat) : Int) = (n : Nat) ∧ ((n : Nat) : Int) ≤ 9223372036854775807 ∧ ((1024 : Nat) : Int) * (n : Nat) ≤ 281474976710656 := by omega
  have h2 : ∀ n : Nat, (List.replicate n (bc zb)).flatten = bc (List.replicate (n * 1024) 0) := fun n => by
    induction n with
    | zero => simp [bc]
    | succ n ih =>
      rw [List.replicate_succ, List.flatten_cons, ih, bc_app]
      congr 1
      unfold zb
      rw [List.replicate_append_replicate]
      congr 1; omega
  unfold makeS
  show (if _ then _ else none) = _
  rw [if_pos h1, Int.toNat_natCast, h2]
theorem getG_put {o : List (Int × List Int)} (hn : (ordL o).Nodup) (x : Int) (b : List Int) (y : Int) : getG (putG o x b) y = if y = x then some b else getG o y := by
  have hn' : (ordL (putG o x b)).Nodup := by rw [ordL_put]; exact addL_nodup hn
  refine Option.ext fun b' => ?_
  rw [getG_iff hn', mem_putG]
  by_cases h : y = x
  · rw [if_pos h]
    constructor
    · rintro (⟨_, rfl⟩ | ⟨h1, _⟩)
      · rfl
      · exact absurd h h1
    · intro e; cases e; exact .inl ⟨h, rfl⟩
  · rw [if_neg h, getG_iff hn]
    constructor
    · rintro (⟨h1, _⟩ | ⟨_, h1⟩)
      · exact absurd h1 h
      · exact h1
    · exact fun e => .inr ⟨h, e⟩
/-- What a change of a step is answered. -/
theorem write_want (hW : WOk w) (ho : w.opn = true) (x : Int) (b : List Int) :
    (w.write x b).1 = if x < 1 + w.g.log ∨ w.g.blocks ≤ x then 2 else if x ∉ w.wrote ∧ (w.wrote.length : Int) = w.room then 181 else 0 := by
  unfold WS.write
  rw [if_neg (by rw [ho]; decide)]
  by_cases h : x < 1 + w.g.log ∨ w.g.blocks ≤ x
  · rw [if_pos h, if_pos h]
  · rw [if_neg h, if_neg h]
    have := (hW.wrote ho).1
    by_cases h2 : x ∉ w.wrote ∧ w.room ≤ (w.wrote.length : Int)
    · rw [if_pos h2, if_pos ⟨h2.1, by omega⟩]
    · rw [if_neg h2, if_neg (fun e => h2 ⟨e.1, by omega⟩)]
/-- A step of a fresh log, as far as it is written; the blocks as they are. -/
structure Sp (l d nid : Nat) (g : Geo) (r : Int) (A0 : List Nat) (sB : Store) (w : WS) (xv : Value) (now : List Int) (st : Store) : Prop where
  ex : ∃ F G, Log st l d w (fresh0 g) F ∧ Disk st d (fresh0 g) G ∧ Apart F G ∧ Apart (F ++ G) (nid :: idsV xv) ∧ Upd (A0 ++ [nid]) sB st ((F ++ G) ++ (nid :: idsV xv))
  sl : SlG st 1 xv w.wrote.length (ic w.wrote)
  nn : nid ∉ idsV xv
  arr : st.get nid = some (.cells (bc now) none)
  nl : now.length = g.blocks.toNat * 1024
  nv : ∀ x : Nat, x < g.blocks.toNat → (now.drop (x * 1024)).take 1024 = w.at (fresh0 g) x
  wg : w.g = g
  wo : w.opn = true
  wr : w.room = r
  wm : w.mine = 1
  ord : ordL w.grp = w.wrote
  cnt : w.commits = 0 ∧ w.steps = 0
theorem Sp.ok {l d nid : Nat} {r : Int} {A0 : List Nat} {sB st : Store} {xv : Value} {now : List Int} (h : Sp l d nid g r A0 sB w xv now st) : WOk w := by
  obtain ⟨F, G, h1, _⟩ := h.ex
  exact h1.ok
/-- What was there before is there. -/
theorem Sp.old {l d nid : Nat} {r : Int} {A0 : List Nat} {sB st : Store} {xv : Value} {now : List Int} (h : Sp l d nid g r A0 sB w xv now st) {j : Nat} {o : SObj} (hj : sB.get j = some o) (hn : j ∉ A0) (hn' : j ≠ nid) : st.get j = some o := by
  obtain ⟨F, G, _, _, _, _, u⟩ := h.ex
  rw [u.same j (Store.lt_of_get hj) (by simp [hn, hn']), hj]
end Go.Proofs.Ytlogocelkpmkbaa
