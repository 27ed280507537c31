/- Contracts of the package disk. -/
import Derived.Test.YtncdcjebanhcpaaAm34
import Derived.Test.YtncdcjebanhcpaaP1
import Derived.Test.YtncdcjebanhcpaaRuns
set_option linter.all false
set_option maxRecDepth 100000
set_option maxHeartbeats 400000
namespace Go.Proofs.Ytncdcjebanhcpaa
open Go.Am
/-- A disk: what is held, what waits (the last one last), what was done. -/
structure DS where
  n : Int
  held : Int → Option (List Int)
  wait : List (Int × List Int)
  hist : List (Int × Int × List Int)
  fuse : Int
  dead : Bool
  made : Int
  reads : Int
  claims : Int
  claim : Int
def lastOf : List (Int × List Int) → Int → Option (List Int)
  | [], _ => none
  | (i, b) :: r, x => (lastOf r x).or (if i = x then some b else none)
def bv (b : List Int) : Value := .agg ⟨bc b⟩
def waitC : List (Int × List Int) → List Value
  | [] => []
  | (i, b) :: r => .int .i64 i :: (bc b ++ waitC r)
def histC : List (Int × Int × List Int) → List Value
  | [] => []
  | (k, i, b) :: r => .int .u8 k :: .int .i64 i :: (bc b ++ histC r)
/-- The cells of a disk. -/
def DS.cells (s : DS) (hm lm : Nat) (pv hv : Value) : List Value := [.int .i64 s.n, .map (some hm), .map (some lm), pv, hv, .int .i64 s.fuse, .bool s.dead, .int .i64 s.made, .int .i64 s.reads, .int .i64 s.claims, .int .i64 s.claim]
/-- How far a disk's numbers go. -/
structure DS.Ok (s : DS) : Prop where
  n : 0 < s.n
  n2 : s.n ≤ 1048576
  fuse : s.fuse < 2 ^ 63
  fuse0 : -1 ≤ s.fuse
  made0 : 0 ≤ s.made
  reads0 : 0 ≤ s.reads
  claims0 : 0 ≤ s.claims
  wait : ∀ p ∈ s.wait, p.2.length = 1024
  hist : ∀ p ∈ s.hist, p.2.2.length = 1024
  held : ∀ x b, s.held x = some b → b.length = 1024
/-- A disk stands in a store, over some ids. -/
structure DAt (σ : Store) (d : Nat) (s : DS) (hm lm : Nat) (pv hv : Value) : Prop where
  cells : σ.get d = some (.cells (s.cells hm lm pv hv) none)
  held : MapAt σ hm fun x => (s.held x).map bv
  last : MapAt σ lm fun x => (lastOf s.wait x).map bv
  wait : SlG σ 1025 pv s.wait.length (waitC s.wait)
  hist : SlG σ 1026 hv s.hist.length (histC s.hist)
  ne1 : hm ≠ d
  ne2 : lm ≠ d
  ne3 : hm ≠ lm
  ne4 : ∀ i ∈ idsV pv, i ≠ d ∧ i ≠ hm ∧ i ≠ lm ∧ i ∉ idsV hv
  ne5 : ∀ i ∈ idsV hv, i ≠ d ∧ i ≠ hm ∧ i ≠ lm
def ids (d hm lm : Nat) (pv hv : Value) : List Nat := d :: hm :: lm :: (idsV pv ++ idsV hv)
variable {σ : Store} {d hm lm : Nat} {pv hv : Value} {s : DS} {Q : Value → Store → Prop}
/-- Something burns. -/
def DS.burnt (s : DS) : DS := if s.fuse = 0 then { s with dead := true } else { s with fuse := if 0 < s.fuse then s.fuse - 1 else s.fuse, made := s.made + 1 }
/-- Cells of a disk that are written anew, its maps and lists as they were. -/
theorem DAt.put {s' : DS} (h : DAt σ d s hm lm pv hv) (h1 : s'.held = s.held) (h2 : s'.wait = s.wait) (h3 : s'.hist = s.hist) : DAt (σ.put d (some (.cells (s'.cells hm lm pv hv) none))) d s' hm lm pv hv where
  cells := Store.get_put_same _ _ _
  held := by rw [h1]; exact h.held.same (Store.get_put_ne _ _ h.ne1)
  last := by rw [h2]; exact h.last.same (Store.get_put_ne _ _ h.ne2)
  wait := by rw [h2]; exact h.wait.same fun i hi => Store.get_put_ne _ _ (h.ne4 i hi).1
  hist := by rw [h3]; exact h.hist.same fun i hi => Store.get_put_ne _ _ (h.ne5 i hi).1
  ne1 := h.ne1
  ne2 := h.ne2
  ne3 := h.ne3
  ne4 := h.ne4
  ne5 := h.ne5
theorem DAt.lt (h : DAt σ d s hm lm pv hv) : ∀ j ∈ ids d hm lm pv hv, j < σ.next := by
  intro j hj
  simp only [ids, List.mem_cons, List.mem_append] at hj
  rcases hj with rfl | rfl | rfl | hj | hj
  · exact Store.lt_of_get h.cells
  · exact h.held.lt
  · exact h.last.lt
  · exact h.wait.lt _ hj
  · exact h.hist.lt _ hj
theorem DAt.keeps {σ' : Store} (h : DAt σ d s hm lm pv hv) (hg : ∀ j ∈ ids d hm lm pv hv, σ'.get j = σ.get j) : DAt σ' d s hm lm pv hv where
  cells := by rw [hg d (by simp [ids]), h.cells]
  held := h.held.same (hg hm (by simp [ids]))
  last := h.last.same (hg lm (by simp [ids]))
  wait := h.wait.same fun i hi => hg i (by simp [ids, hi])
  hist := h.hist.same fun i hi => hg i (by simp [ids, hi])
  ne1 := h.ne1
  ne2 := h.ne2
  ne3 := h.ne3
  ne4 := h.ne4
  ne5 := h.ne5
def DS.write (s : DS) (i : Int) (b : List Int) : Int × DS :=
  if s.dead then (3, s) else if i < 0 ∨ s.n ≤ i then (2, s) else if s.fuse = 0 then (3, s.burnt)
  else (0, { s.burnt with wait := s.wait ++ [(i, b)], hist := s.hist ++ [(1, i, b)] })
theorem Upd.keeps {F F' : List Nat} {a b c : Store} (h : Keeps a b) (k : Upd F b c F') (hF : ∀ j ∈ F, j < a.next) : Upd F a c F' :=
  ⟨Nat.le_trans h.1 k.next, fun j hj => ⟨(k.ids j hj).1, by
    rcases (k.ids j hj).2 with h1 | h1
    · exact .inl h1
    · exact .inr (Nat.le_trans h.1 h1)⟩, fun j hj hn => by rw [k.same j (Nat.lt_of_lt_of_le hj h.1) hn, h.2 j hj]⟩
theorem waitC_at : ∀ {w : List (Int × List Int)} {k : Nat} {i : Int} {b : List Int}, (∀ p ∈ w, p.2.length = 1024) → w[k]? = some (i, b) → ((waitC w).drop (k * 1025)).take 1025 = .int .i64 i :: bc b
  | [], k, i, b, _, h => by simp at h
  | (j, c) :: w, 0, i, b, hl, h => by
    simp only [List.getElem?_cons_zero, Option.some.injEq, Prod.mk.injEq] at h
    obtain ⟨rfl, rfl⟩ := h
    have hc : (bc c).length = 1024 := by rw [bc_len]; exact hl (j, c) List.mem_cons_self
    simp only [waitC, Nat.zero_mul, List.drop_zero, List.take_succ_cons]
    rw [List.take_append_of_le_length (by omega), List.take_of_length_le (by omega)]
  | (j, c) :: w, k + 1, i, b, hl, h => by
    have hc : (bc c).length = 1024 := by rw [bc_len]; exact hl (j, c) List.mem_cons_self
    have ih := waitC_at (w := w) (k := k) (fun p hp => hl p (List.mem_cons_of_mem _ hp)) (by simpa using h)
    have e : (k + 1) * 1025 = (1024 + k * 1025) + 1 := by omega
    simp only [waitC]
    rw [e, List.drop_succ_cons, ← List.drop_drop, List.drop_left' hc]
    exact ih
/-- What a block reads as. -/
def DS.at (s : DS) (i : Int) : List Int := match lastOf s.wait i with | some b => b | none => (s.held i).getD zb
theorem lastOf_mem {w : List (Int × List Int)} {x : Int} {b : List Int} (h : lastOf w x = some b) : ∃ p ∈ w, p.2 = b := by
  induction w with
  | nil => cases h
  | cons p w ih =>
    obtain ⟨j, c⟩ := p
    simp only [lastOf] at h
    cases hl : lastOf w x with
    | some b' =>
      rw [hl] at h
      obtain ⟨p, hp, e⟩ := ih (by rw [hl]; exact h)
      exact ⟨p, List.mem_cons_of_mem _ hp, e⟩
    | none =>
      rw [hl] at h
      simp only [Option.none_or] at h
      split at h
      · cases h; exact ⟨_, List.mem_cons_self, rfl⟩
      · cases h
/-- The power goes and comes: nothing of what waits is kept. -/
def DS.gone (s : DS) : DS := { s with wait := [], hist := [], dead := false, fuse := -1, claim := 0 }
end Go.Proofs.Ytncdcjebanhcpaa
