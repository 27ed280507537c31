/- mkfs.Make over several disks; lives. -/
import Derived.Test.YtchfpepbdnjhmaaMkp
set_option linter.all false
set_option maxRecDepth 100000
set_option maxHeartbeats 400000
namespace Go.Proofs.Ytchfpepbdnjhmaa
open Go.Am
variable {σ st st' : Store} {d m : Nat} {s : DS} {l : List (Nat × DS)} {os : List (Nat × SObj)} {g : Geo} {Q : Value → Store → Prop}
theorem kmake_ (h : Dks σ st ((d, s) :: l) os) (hC : s.C m) (hm : m ≤ 2 ^ 20) (hg : g.ok) (hq : ∀ st', Dks σ st' ((d, (s.mkfs g).2) :: l) os → Q (.int .i64 (s.mkfs g).1) st') : Does Try.prog 8 [.pointer (some ⟨d, 0, none⟩), .agg ⟨ic g.cells⟩] st Q := by
  obtain ⟨h1, A, h2, h3⟩ := h
  have hg' := hg
  unfold Geo.ok at hg'
  cases h2 with
  | cons hD hF hr ha =>
    obtain ⟨hm', lm, pv, hv, hD', rfl⟩ := hD
    exact make_ hD' (m := m) ⟨hC.ok, by have := hC.made; omega, by have := hC.wait; omega, by have := hC.hist; omega⟩ (by omega) (by have := hC.claims; omega) (by omega) (by omega) fun σ' pv' hv' D _ U => hq σ' (Dks.upd h1 ⟨_, _, _, _, hD', rfl⟩ hF hr ha h3 ⟨_, _, _, _, D, rfl⟩ U)
/-! ## a disk that is made -/
theorem run_W (hW : s.W) : ∀ l : List DOp, (s.run l).2.W := by
  intro l
  induction l generalizing s with
  | nil => exact hW
  | cons o l ih =>
    rw [run_cons]
    have ho : (s.op o).2.W := by
      cases o with
      | w i b => exact write_W hW
      | bar => exact barrier_W hW
    split
    · exact ih ho
    · exact ho
def mkL (g : Geo) : Nat := (midW g).length + 5
structure MkD (g : Geo) (s : DS) (m t : Nat) (r : Int × DS) : Prop where
  code : r.1 = if t = mkL g then 0 else 3
  held : (r.2.held, r.2.wait) = effL ((mkOps g).take t) (s.held, s.wait)
  made : r.2.made = s.made + t
  dead : r.2.dead = decide (t < mkL g)
  n : r.2.n = s.n
  fuse : s.fuse < 0 → r.2.fuse < 0
  C : r.2.C (m + 1 + mkL g)
  W : r.2.W
theorem mkfs_does (hg : g.ok) (hn : g.blocks ≤ s.n) (hd : s.dead = false) (hC : s.C m) (hW : s.W) : MkD g s m (goes s.fuse (mkL g)) (s.mkfs g) := by
  have e := mkfs_run hg hn hd
  rw [e]
  have hl : (mkOps g).length = mkL g := mkOps_len g
  obtain ⟨n, hnn⟩ : ∃ n : Nat, s.n = (n : Nat) := ⟨s.n.toNat, by have := hC.ok.n; omega⟩
  have hr := run_ran (l := mkOps g) (s := s.claimed) hd hC.ok.fuse0 (by
    show ∀ o ∈ mkOps g, okOp s.n o
    rw [hnn]
    exact mkOps_ok hg (by omega))
  have hCl := run_C (claimed_C hC) (l := mkOps g) (mkOps_lens hg)
  have hWl := run_W (claimed_W hW) (mkOps g)
  rw [hl] at hr hCl
  generalize s.claimed.run (mkOps g) = r at hr hCl hWl ⊢
  have ef : s.claimed.fuse = s.fuse := rfl
  rw [ef] at hr
  exact ⟨by rw [hr.code, hl], hr.held, hr.made, by rw [hr.dead, hl], hr.n, hr.fuse, hCl, hWl⟩
/-- Nothing stops it. -/
theorem mkfs_live (hg : g.ok) (hn : g.blocks ≤ s.n) (hd : s.dead = false) (hf : s.fuse < 0) (hw : s.wait = []) (hC : s.C m) (hW : s.W) :
    (s.mkfs g).1 = 0 ∧ (s.mkfs g).2.held = doneF g s.held ∧ (s.mkfs g).2.wait = [] ∧ (s.mkfs g).2.made = s.made + mkL g ∧ (s.mkfs g).2.dead = false ∧ (s.mkfs g).2.n = s.n ∧ (s.mkfs g).2.fuse < 0 ∧ (s.mkfs g).2.C (m + 1 + mkL g) ∧ (s.mkfs g).2.W := by
  have h := mkfs_does hg hn hd hC hW
  have e : goes s.fuse (mkL g) = mkL g := by unfold goes; rw [if_pos hf]
  rw [e] at h
  generalize s.mkfs g = r at h ⊢
  have hh := h.held
  have hl : (mkOps g).length = mkL g := mkOps_len g
  rw [← hl, List.take_length, hw, mkOps_all] at hh
  have h1 : r.2.held = doneF g s.held := congrArg Prod.fst hh
  have h2 : r.2.wait = [] := congrArg Prod.snd hh
  exact ⟨by rw [h.code, if_pos rfl], h1, h2, h.made, by rw [h.dead]; simp, h.n, h.fuse hf, h.C, h.W⟩
/-! ## the chapter's first example -/
theorem upd_fresh {F F' : List Nat} {a b c : Store} (k : Keeps a b) (h : Upd F b c F') (o : ∀ j ∈ F, a.next ≤ j) : Keeps a c :=
  ⟨Nat.le_trans k.1 h.next, fun j hj => by rw [h.same j (Nat.lt_of_lt_of_le hj k.1) (fun hx => by have := o j hx; omega), k.2 j hj]⟩
def S0 : DS := ⟨400, fun _ => none, [], [], -1, false, 0, 0, 0, 0⟩
def g4 : Geo := ⟨400, 32, 60⟩
theorem S0_B : S0.B 0 := ⟨⟨by decide, by decide, by decide, by decide, by decide, by decide, by decide, fun p hp => (by cases hp), fun p hp => (by cases hp), fun x b h => (by cases h)⟩, by decide, by decide, by decide⟩
theorem S0_err : (S0.mkfs g4).1 = 0 := by decide +kernel
theorem S1_made : (S0.mkfs g4).2.made = 12 := by decide +kernel
theorem lives_ (hq : ∀ σ', Keeps σ σ' → Q (.bool true) σ') : Does Try.prog 7 [] σ Q := by
  refine d7 ?_
  simp -implicitDefEqProofs (maxSteps := 2000000) (disch := first|assumption|omega|rfl|(simp only[RD];done)|(simp only[RD];omega)) only [RN,Int.reduceBEq,Int.reduceBNe,Int.reduceLT,Int.reduceLE,Int.reduceAdd,Int.reduceSub,Int.reduceMul,Nat.reduceAdd,↓bc_flatz,↓bc_flat16,↓agg_bytez, p7]
  refine new_ (by decide) (by decide) fun σ1 d hm lm h1 k1 o1 => ?_
  simp -implicitDefEqProofs (maxSteps := 2000000) (disch := first|assumption|omega|rfl|(simp only[RD];done)|(simp only[RD];omega)) only [RN,Int.reduceBEq,Int.reduceBNe,Int.reduceLT,Int.reduceLE,Int.reduceAdd,Int.reduceSub,Int.reduceMul,Nat.reduceAdd,↓bc_flatz,↓bc_flat16,↓agg_bytez]
  refine make_ (s := S0) (g := g4) h1 S0_B (by decide) (by decide) (by decide) (by decide) fun σ2 pv2 hv2 h2 b2 u2 => ?_
  rw [S0_err]
  simp -implicitDefEqProofs (maxSteps := 2000000) (disch := first|assumption|omega|rfl|(simp only[RD];done)|(simp only[RD];omega)) only [RN,Int.reduceBEq,Int.reduceBNe,Int.reduceLT,Int.reduceLE,Int.reduceAdd,Int.reduceSub,Int.reduceMul,Nat.reduceAdd,↓bc_flatz,↓bc_flat16,↓agg_bytez]
  refine made_c h2.cells b2.ok.n ?_
  rw [S1_made]
  simp -implicitDefEqProofs (maxSteps := 2000000) (disch := first|assumption|omega|rfl|(simp only[RD];done)|(simp only[RD];omega)) only [RN,Int.reduceBEq,Int.reduceBNe,Int.reduceLT,Int.reduceLE,Int.reduceAdd,Int.reduceSub,Int.reduceMul,Nat.reduceAdd,↓bc_flatz,↓bc_flat16,↓agg_bytez]
  exact hq _ (upd_fresh k1 u2 o1)
end Go.Proofs.Ytchfpepbdnjhmaa
