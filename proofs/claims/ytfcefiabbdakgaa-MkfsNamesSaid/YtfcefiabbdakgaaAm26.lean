/- The abstract machine, part 26: resolved operations are the machine's. No program in sight. -/
import Derived.Test.YtfcefiabbdakgaaAm25
set_option linter.all false
namespace Go.Am
open Go.RowKit
variable {P : Program}

theorem delH_fits {t kt et : TypeId} {d : TypeDesc} {x k : Value} (hu : P.underlying t = some (.map kt et)) (hd : keyDesc P kt = some d) (f : Store → Option (Value × Store)) (hf : f = fun σ => deleteV P t x k σ) : Fits (.eff (delH d x k)) (some (.eff f)) := by
  refine .inl ⟨f, rfl, fun σ r h => ?_⟩
  subst hf
  unfold delH at h
  unfold deleteV
  rw [hu]
  split at h
  · simp only [hd]; exact h
  · split at h
    · rename_i hs
      simp only [hd, hs]
      split at h
      · cases h
      · rename_i hn; simp only [hn]; exact h
      · rename_i hn; simp only [hn]; exact h
    · cases h
  · cases h
theorem builtinH_fits {b : Builtin} {ts : List TypeId} {args : List Value} : Fits (builtinH P b ts args) (builtinA P b ts args) := by
  unfold builtinH builtinA
  split
  · rename_i t t1 s x
    split
    · rename_i e h1 h2
      have key : Fits (match tSize P e, tBytes P e, tZeros P e with
          | some (sz + 1), some by_, some ze => bif ze.length == sz + 1 then .eff (appendV (sz + 1) by_ s x) else .fail
          | _, _, _ => .fail) (match tSize P e, tBytes P e, tZeros P e with
          | some (sz + 1), some by_, some ze => bif ze.length == sz + 1 then some (.eff fun σ => appendV (sz + 1) by_ s x σ) else none
          | _, _, _ => none) := by
        split
        · rename_i sz by_ ze h3 h4 h5
          cases hb : (ze.length == sz + 1) with
          | true => exact Fits.eff_same _
          | false => trivial
        · trivial
      dsimp only
      rw [h1]
      cases hu1 : P.underlying t1 with
      | none => rw [hu1] at h2; cases h2
      | some d1 =>
        rw [hu1] at h2
        cases d1 with
        | slice e1 => exact key
        | string => exact key
        | _ => cases h2
    · trivial
  · rename_i t x
    cases hu : P.underlying t with
    | none => trivial
    | some d =>
      cases d with
      | string =>
        intro v hv
        unfold lenStr at hv
        split at hv <;> cases hv
        simp only [hu]
      | array n e => simp only [hu]; exact rfl
      | slice e =>
        intro v hv
        unfold lenSl at hv
        split at hv <;> cases hv
        simp only [hu]
      | map k e =>
        simp only [hu]
        by_cases h : ∃ g v, lenMap x g = some v
        · obtain ⟨g, v, hg⟩ := h
          unfold lenMap at hg
          split at hg
          · exact .inl ⟨_, rfl, fun g v h => h⟩
          · cases hg
        · refine .inr fun g => ?_
          cases hg : lenMap x g with
          | none => rfl
          | some v => exact absurd ⟨g, v, hg⟩ h
      | _ => trivial
  · rename_i t _ d x
    split
    · rename_i e h1
      try simp only [h1]
      split
      · rename_i sz h2
        try simp only [h2]
        exact Fits.eff_same _
      · trivial
    · trivial
  · rename_i t x
    split
    · rename_i k e h1
      try simp only [h1]
      exact Fits.eff_same _
    · trivial
  · rename_i t _ m k
    split
    · rename_i kt et h1
      split
      · rename_i d h2
        exact delH_fits h1 h2 _ rfl
      · trivial
    · trivial
  · rename_i t m k
    split
    · rename_i kt et h1
      split
      · rename_i d h2
        exact delH_fits h1 h2 _ rfl
      · trivial
    · trivial
  · rename_i args
    intro v hv
    exact ofVal_val hv
  · rename_i args
    intro v hv
    exact ofVal_val hv
  · trivial
theorem lookupH_fits {t kt et : TypeId} {d : TypeDesc} {z x k : Value} {ok : Bool} (hu : P.underlying t = some (.map kt et)) (hd : keyDesc P kt = some d) (hz : tZero P et = some z) : Fits (.rd (lookupH d (rleV z) x k ok)) (some (.rd fun g => lookupV P t x k ok g)) := by
  refine .inl ⟨_, rfl, fun g v h => ?_⟩
  rw [rleV_eq] at h
  unfold lookupH entsOf at h
  unfold lookupV
  simp only [hu, hd, hz]
  exact h
theorem updH_fits {t kt et : TypeId} {d : TypeDesc} {x k u : Value} (hu : P.underlying t = some (.map kt et)) (hd : keyDesc P kt = some d) : Fits (.eff (updH d x k u)) (some (.eff fun σ => mapUpdateV P t x k u σ)) := by
  refine .inl ⟨_, rfl, fun σ v h => ?_⟩
  unfold updH at h
  unfold mapUpdateV
  split at h
  · split at h
    · rename_i hs
      simp only [hu, hd, hs]
      exact h
    · cases h
  · cases h
theorem entryH_fits {t kt et : TypeId} {d : TypeDesc} {z x k : Value} (hu : P.underlying t = some (.map kt et)) (hd : keyDesc P kt = some d) (hz : tZero P et = some z) : Fits (.eff (entryH d (rleV z) x k)) (some (.eff fun σ => mapEntryV P t x k σ)) := by
  refine .inl ⟨_, rfl, fun σ v h => ?_⟩
  rw [rleV_eq] at h
  unfold entryH at h
  unfold mapEntryV
  split at h
  · split at h
    · rename_i hs
      simp only [hu, hd, hz, hs]
      exact h
    · cases h
  · cases h
theorem actH_fits {o : Oper} {e : Operand → Value} : Fits (actH P o e) (action P o e) := by
  unfold actH action
  cases o.op with
  | move x => rfl
  | assign x => rfl
  | pick c a b =>
    intro v hv
    unfold pickV at hv
    split at hv <;> cases hv
    rename_i t ht
    simp [ht]
  | alloc t =>
    simp only
    cases tZeros P t with
    | none => trivial
    | some z => intro o mk h; rw [rle_eq] at h; cases h; rfl
  | box _ x =>
    intro o mk h
    unfold boxN at h
    split at h
    · rename_i cs hc
      cases h
      simp [hc]
    · cases h
  | build t parts => exact buildH_fits
  | buildSlice t n parts =>
    simp only
    split
    · rename_i el h1
      split
      · rename_i ze h2
        cases hb : Nat.ble (n * ze.length) 16777216 with
        | false => trivial
        | true =>
          intro o mk h
          rw [rle_eq] at h
          unfold sliceOf at h
          split at h
          · rename_i fs hf
            cases h
            simp only [h1, h2, hf, hb, cond_true]
          · cases h
      · trivial
    · trivial
  | load t a =>
    simp only
    split
    · rename_i h1 h2; simp only [h1, h2]; exact Fits.rd_same _
    · trivial
  | store t a v =>
    simp only
    split
    · rename_i h1; simp only [h1]; exact Fits.eff_same _
    · trivial
  | nilCheck x =>
    intro v hv
    unfold nilV at hv
    split at hv
    · rename_i h; cases hv; simp [h]
    · rename_i h; cases hv; simp [h]
    · cases hv
  | binOp op t x y _ => exact binH_fits
  | unOp op _ x => exact fun v hv => ofVal_val hv
  | convert src dst x =>
    simp only
    split
    · rename_i h1 h2
      intro v hv
      unfold convI at hv
      split at hv
      · rename_i h3; cases hv; simp [h1, h2, h3]
      · cases hv
    · rename_i h1 h2
      intro v hv
      unfold convS at hv
      split at hv
      · rename_i h3; cases hv; simp [h1, h2, h3]
      · cases hv
    · rename_i el h1 h2
      split
      · rename_i h4
        intro o mk h
        unfold convB at h
        split at h
        · rename_i h3; cases h; simp [h1, h2, h3, h4]
        · cases h
      · trivial
    · rename_i el0 el h1 h2
      split
      · rename_i h4
        cases hb : Nat.beq src dst with
        | false => trivial
        | true =>
          refine .inl ⟨fun σ => handV (e x) σ, ?_, fun _ _ h => h⟩
          simp [h1, h2, h4, hb]
      · trivial
    · trivial
  | sliceToArrayPointer t x =>
    simp only
    split
    · rename_i n el h1
      intro v hv
      unfold s2a at hv
      split at hv
      · rename_i i o s len c h3
        cases hb : Nat.ble n len with
        | false => rw [hb] at hv; cases hv
        | true => rw [hb] at hv; cases hv; simp [h1, h3, hb]
      · cases hv
    · trivial
  | makeFunc f first captured =>
    cases f with
    | func f => rfl
    | _ => trivial
  | makeMap t r =>
    cases r with
    | none => intro o mk h; cases h; rfl
    | some x => trivial
  | makeSlice t l c =>
    simp only
    split
    · rename_i el h1
      split
      · rename_i ze by_ h2 h3
        intro o mk h
        rw [rle_eq] at h
        unfold makeS at h
        split at h
        · rename_i h4 h5
          simp only [h1, h2, h3, h4, h5]
          split at h
          · rename_i hc; cases h; rw [if_pos hc]
          · cases h
        · cases h
      · trivial
    · trivial
  | slice t x lo hi mx =>
    cases mx with
    | some m => trivial
    | none =>
      simp only
      split
      · rename_i n el h1
        split
        · rename_i c h2
          intro v hv
          refine ofVal_val ?_
          unfold sliceAr at hv
          unfold sliceV
          split at hv
          · rename_i b o h3
            simp only [Option.map_none, h1, h2, h3]
            split at hv
            · rename_i h h4
              simp only [h4]
              exact hv
            · cases hv
          · cases hv
        · trivial
      · rename_i el h1
        split
        · rename_i c h2
          intro v hv
          refine ofVal_val ?_
          unfold sliceSl at hv
          unfold sliceV
          split at hv
          · rename_i b o s n k h3
            simp only [Option.map_none, h1, h2, h3]
            split at hv
            · rename_i h h4
              simp only [h4]
              exact hv
            · cases hv
          · rename_i n k h3
            simp only [Option.map_none, h1, h2, h3]
            split at hv
            · rename_i h h4
              simp only [h4]
              exact hv
            · cases hv
          · cases hv
        · trivial
      · rename_i h1
        intro v hv
        refine ofVal_val ?_
        unfold sliceStr at hv
        unfold sliceV
        split at hv
        · rename_i s h3
          simp only [Option.map_none, h1, h3]
          exact hv
        · cases hv
      · trivial
  | fieldAddr t x f =>
    simp only
    split
    · rename_i fs h1
      split
      · rename_i fl h2
        split
        · rename_i n h3
          intro v hv
          refine ofVal_val ?_
          unfold faddr at hv
          unfold fieldAddrV
          split at hv
          · rename_i i o h4
            simp only [h1, h2, h3, h4]
            exact hv
          · cases hv
        · trivial
      · trivial
    · trivial
  | field t x f =>
    simp only
    split
    · rename_i fs h1
      split
      · rename_i fl h2
        split
        · rename_i b n h3 h4
          intro v hv
          refine ofVal_val ?_
          unfold fpart at hv
          unfold fieldV
          split at hv
          · rename_i xs h5
            simp only [h1, h2, h3, h4, h5]
            exact hv
          · cases hv
        · trivial
      · trivial
    · trivial
  | indexAddr t x i =>
    simp only
    split
    · rename_i n el h1
      split
      · rename_i c h2
        intro v hv
        refine ofVal_val ?_
        unfold iaddrA at hv
        unfold indexAddrV
        split at hv
        · rename_i h4 h5
          simp only [h1, h2, h4, h5]
          exact hv
        · cases hv
      · trivial
    · rename_i el h1
      split
      · rename_i c h2
        intro v hv
        refine ofVal_val ?_
        unfold iaddrS at hv
        unfold indexAddrV
        split at hv
        · rename_i h4 h5
          simp only [h1, h2, h4, h5]
          exact hv
        · cases hv
      · trivial
    · trivial
  | index t x i =>
    simp only
    split
    · rename_i n el h1
      split
      · rename_i b c h2 h3
        intro v hv
        refine ofVal_val ?_
        unfold indexA at hv
        unfold indexV
        split at hv
        · rename_i h4 h5
          simp only [h1, h2, h3, h4, h5]
          exact hv
        · cases hv
      · trivial
    · rename_i h1
      intro v hv
      refine ofVal_val ?_
      unfold indexStr at hv
      unfold indexV
      split at hv
      · rename_i h4 h5
        simp only [h1, h4, h5]
        exact hv
      · cases hv
    · trivial
  | lookup t x k ok =>
    simp only
    split
    · rename_i kt et h1
      split
      · rename_i d z h2 h3
        exact lookupH_fits h1 h2 h3
      · trivial
    · trivial
  | mapUpdate t m k v =>
    simp only
    split
    · rename_i kt et h1
      split
      · rename_i d h2
        exact updH_fits h1 h2
      · trivial
    · trivial
  | mapEntry t m k =>
    simp only
    split
    · rename_i kt et h1
      split
      · rename_i d z h2 h3
        exact entryH_fits h1 h2 h3
      · trivial
    · trivial
  | entryStore _ m s v => exact Fits.eff_same _
  | extract x i =>
    intro v hv
    unfold extractV at hv
    split at hv
    · rename_i h; simp only [h]; exact ofVal_val hv
    · cases hv
  | call c =>
    simp only
    cases c.callee with
    | builtin b => exact builtinH_fits
    | value f =>
      intro g as h
      unfold callD at h
      split at h
      · rename_i g first captured h1
        simp only [h1]
        cases hb : callable P g with
        | false => rw [hb] at h; cases h
        | true => rw [hb] at h; cases h; rfl
      · cases h
    | invoke _ _ => trivial
  | _ => trivial
end Go.Am
