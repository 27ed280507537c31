/- The abstract machine, part 28: code of resolved operations, with joins; its body as a call. No program in sight. -/
import Derived.Test.YtfcefiabbdakgaaAm27
set_option linter.all false
namespace Go.Am
open Go.RowKit
variable {P : Program} {ds : List Deferred}

/-! ## what is handed on -/
@[reducible] def NF : Nat → Type
  | 0 => Store → Prop
  | n + 1 => Value → NF n
@[reducible] def appN : (n : Nat) → NF n → List Value → Store → Prop
  | 0, f, _, σ => f σ
  | n + 1, f, xs, σ => appN n (f (xs.headD junk)) xs.tail σ
@[reducible] def lamN : (n : Nat) → (List Value → Store → Prop) → NF n
  | 0, f => fun σ => f [] σ
  | n + 1, f => fun x => lamN n (fun xs => f (x :: xs))
theorem app_lam : ∀ {n : Nat} {f : List Value → Store → Prop} {xs : List Value} {σ : Store}, xs.length = n → (appN n (lamN n f) xs σ ↔ f xs σ)
  | 0, f, [], σ, _ => Iff.rfl
  | n + 1, f, x :: xs, σ, h => by
    show appN n (lamN n (fun xs => f (x :: xs))) xs σ ↔ _
    exact app_lam (f := fun xs => f (x :: xs)) (by simpa using h)
def jop (n : Nat) (M : NF n → Prop) (k : NF n) : Prop := M k
def lop (n : Nat) (F : NF n → NF n) : NF n := lamN n fun xs σ => ∃ k, rounds (fun next xs σ => appN n (F (lamN n next)) xs σ) k xs σ
def condH (v : Value) (p q : Prop) : Prop := match v with | .bool true => p | .bool false => q | _ => False

/-! ## slots -/
def useO (m : Nat) (x : Operand) : Nat := match x with | .tmp t => Nat.lor m (Nat.shiftLeft 1 t) | _ => m
def lessM (m t : Nat) : Nat := Nat.xor m (Nat.land m (Nat.shiftLeft 1 t))
def liveO (ops : Array Oper) (o : Oper) (m : Nat) : Nat :=
  CheckFast.force (o.op.operands.toList.foldl useO (match gslot ops o with
    | some none => (match o.dst with | some d => lessM m d | none => m)
    | some (some (t, _)) => Nat.lor (match o.dst with | some d => lessM m d | none => m) (Nat.shiftLeft 1 t)
    | none => m)) fun n => n
/-- The slots that are read behind some code: u; behind a block: e; at the end: r. -/
structure Lv where
  u : Nat
  e : List (Nat × Nat)
  r : Nat
def exitU (id : Nat) : List (Nat × Nat) → Nat
  | [] => 0
  | (j, m) :: l => bif Nat.beq j id then m else exitU id l
/-- The slots that code reads, and what comes behind it. -/
def liveC (r : Nat) : Code → Nat → List (Nat × Nat) → Nat
  | .region _ ops _, m, _ => ops.toList.foldr (liveO ops) m
  | .seq x y, m, e => liveC r x (liveC r y m e) e
  | .cond c x y, m, e => useO (Nat.lor (liveC r x m e) (liveC r y m e)) c
  | .block id c, m, e => liveC r c m ((id, m) :: e)
  | .loop c, _, e => liveC r c (liveC r c 0 e) e
  | .exit id, _, e => exitU id e
  | .ret, _, _ => r
  | _, m, _ => m
def usesC (c : Code) (U : Lv) : Lv := { U with u := liveC U.r c U.u U.e }
def loopU (c : Code) (U : Lv) : Lv := { U with u := liveC U.r c (liveC U.r c 0 U.e) U.e }
def enterU (id : Nat) (U : Lv) : Lv := { U with e := (id, U.u) :: U.e }
def maskL : List Nat → Nat → Nat
  | [], m => m
  | t :: ts, m => maskL ts (Nat.lor m (Nat.shiftLeft 1 t))
def bit (m t : Nat) : Bool := Nat.beq (Nat.land (Nat.shiftRight m t) 1) 1
/-- Those of a list that are in a set, each once. -/
def lives : List Nat → Nat → List Nat
  | [], _ => []
  | t :: ts, m => bif bit m t then t :: lives ts (Nat.xor m (Nat.shiftLeft 1 t)) else lives ts m
def exitsTo (id : Nat) : Code → Nat
  | .seq x y => exitsTo id x + exitsTo id y
  | .cond _ x y => exitsTo id x + exitsTo id y
  | .block _ c => exitsTo id c
  | .loop c => exitsTo id c
  | .exit j => bif Nat.beq j id then 1 else 0
  | _ => 0
/-- In how many places code comes to its end (two stands for many). -/
def norms : Code → Nat
  | .seq x y => bif Nat.beq (norms x) 0 then 0 else norms y
  | .cond _ x y => norms x + norms y
  | .block id c => bif Nat.beq (norms c + exitsTo id c) 0 then 0 else 1
  | .loop _ => 0
  | .exit _ => 0
  | .ret => 0
  | _ => 1
def keepM (dm : Nat) : Nat → List Value → List Value
  | _, [] => []
  | i, v :: r => (bif bit dm i then junk else v) :: keepM dm (i + 1) r
theorem keepM_len (dm : Nat) : ∀ (i : Nat) (a : List Value), (keepM dm i a).length = a.length
  | _, [] => rfl
  | i, v :: r => by simp [keepM, keepM_len dm (i + 1) r]
theorem keepM_get (dm : Nat) : ∀ (i : Nat) (a : List Value) (t : Nat) (v : Value), (keepM dm i a)[t]? = some v → v = junk ∨ (bit dm (i + t) = false ∧ a[t]? = some v)
  | _, [], t, v, h => by simp [keepM] at h
  | i, x :: r, t, v, h => by
    cases t with
    | zero =>
      simp only [keepM, List.getElem?_cons_zero, Option.some.injEq] at h
      cases hb : bit dm i with
      | true => rw [hb] at h; exact .inl h.symm
      | false => rw [hb] at h; exact .inr ⟨by simpa using hb, by simpa using h⟩
    | succ t =>
      simp only [keepM, List.getElem?_cons_succ] at h
      rcases keepM_get dm (i + 1) r t v h with h1 | ⟨h1, h2⟩
      · exact .inl h1
      · exact .inr ⟨by rw [← h1]; congr 1; omega, by simpa using h2⟩
theorem bit_lor {m t x : Nat} : bit (Nat.lor m (Nat.shiftLeft 1 t)) x = (bit m x || decide (t = x)) := by
  have h : ∀ m x, bit m x = m.testBit x := fun m x => by
    unfold bit Nat.testBit
    have h1 : Nat.land (Nat.shiftRight m x) 1 = 1 &&& (m >>> x) := by
      show (m >>> x) &&& 1 = _
      rw [Nat.and_comm]
    rw [h1]
    have h2 : 1 &&& (m >>> x) = (m >>> x) % 2 := by rw [Nat.and_comm]; exact Nat.and_one_is_mod _
    rw [h2]
    rcases Nat.mod_two_eq_zero_or_one (m >>> x) with h3 | h3 <;> rw [h3] <;> rfl
  rw [h, h]
  show (m ||| 1 <<< t).testBit x = _
  rw [Nat.testBit_or, Nat.shiftLeft_eq, Nat.one_mul, Nat.testBit_two_pow]
theorem bit_maskL {x : Nat} : ∀ {l : List Nat} {m : Nat}, bit (maskL l m) x = (decide (x ∈ l) || bit m x)
  | [], m => by simp [maskL]
  | t :: ts, m => by
    unfold maskL
    rw [bit_maskL, bit_lor]
    by_cases h : x ∈ ts
    · simp [h]
    · by_cases h2 : t = x
      · subst h2; simp
      · have h3 : ¬ x = t := fun e => h2 e.symm
        simp [h, h2, h3]
theorem bit_zero {x : Nat} : bit 0 x = false := by
  unfold bit
  have : Nat.shiftRight 0 x = 0 := Nat.zero_shiftRight x
  rw [this]; rfl
theorem keepM_not (dm : Nat) : ∀ (i : Nat) (a : List Value) (t : Nat), bit dm (i + t) = false → (keepM dm i a)[t]? = a[t]?
  | _, [], t, _ => by simp [keepM]
  | i, x :: r, t, h => by
    cases t with
    | zero =>
      have h : bit dm i = false := h
      simp [keepM, h]
    | succ t =>
      simp only [keepM, List.getElem?_cons_succ]
      exact keepM_not dm (i + 1) r t (by rw [← h]; congr 1; omega)
/-- The frame behind code, of which some slots are known. -/
def rejoin (a : List Value) (c : Code) (L : List Nat) (xs : List Value) : List Value := setAll (keepM (maskL (defsC c) 0) 0 a) L xs
def liveJ (c : Code) (U : Lv) : List Nat := lives (defsC c) U.u
def liveL (c : Code) (D : Nat) (U : Lv) : List Nat := lives (defsC c) (Nat.land D U.u)
theorem lives_sub : ∀ {l : List Nat} {m t : Nat}, t ∈ lives l m → t ∈ l
  | [], _, _, h => by cases h
  | x :: l, m, t, h => by
    unfold lives at h
    cases hb : bit m x with
    | true =>
      rw [hb] at h
      rcases List.mem_cons.1 h with rfl | h
      · exact List.mem_cons_self
      · exact List.mem_cons_of_mem _ (lives_sub h)
    | false => rw [hb] at h; exact List.mem_cons_of_mem _ (lives_sub h)
theorem rejoin_same {c : Code} {a : List Value} {L : List Nat} (hL : ∀ t ∈ L, t ∈ defsC c) {xs : List Value} : Same (defsC c) a (rejoin a c L xs) := by
  refine ⟨by unfold rejoin; rw [setAll_len, keepM_len], fun t ht => ?_⟩
  unfold rejoin
  rw [setAll_not (fun h0 => ht (hL t h0)), keepM_not _ _ _ _ (by rw [Nat.zero_add, bit_maskL, bit_zero]; simp [ht])]
theorem same_rejoin {c : Code} {a a' : List Value} {L : List Nat} (hL : ∀ t ∈ L, t ∈ defsC c) (hs : Same (defsC c) a a') {M : Places} {act : Act} (h : ActR ds M a' act) : ActR ds M (rejoin a c L (L.map (aget a'))) act ∧ (rejoin a c L (L.map (aget a'))).length = a.length := by
  refine ⟨⟨fun t v hv => ?_, h.none_⟩, by unfold rejoin; rw [setAll_len, keepM_len]⟩
  unfold rejoin at hv
  have hlt : t < a'.length := by
    have := (List.getElem?_eq_some_iff.1 hv).1
    rw [setAll_len, keepM_len] at this
    rw [hs.1]; exact this
  obtain ⟨v', k1, k2⟩ := h.vals t a'[t] (List.getElem?_eq_getElem hlt)
  refine ⟨v', k1, ?_⟩
  rcases setAll_spec.2 t v hv with ⟨k3, rfl⟩ | ⟨k3, k4⟩
  · simpa [aget, hlt] using k2
  · rcases keepM_get _ _ _ _ _ k4 with rfl | ⟨h1, h2⟩
    · exact .junk _
    · have ht : t ∉ defsC c := fun hm => by
        rw [Nat.zero_add, bit_maskL] at h1
        simp [hm] at h1
      rw [← hs.2 t ht, List.getElem?_eq_getElem hlt] at h2
      cases h2
      exact k2

/-! ## the order in which a region is gone through, by sets that are numbers -/
def onesM (m : Nat) : List Nat → List Nat → List Nat
  | [], r => r
  | i :: is, r => bif bit m i then i :: onesM m is r else onesM m is r
theorem onesM_eq (m : Nat) : ∀ (l r : List Nat), onesM m l r = l.filter (bit m) ++ r
  | [], r => rfl
  | i :: is, r => by
    unfold onesM
    cases hb : bit m i with
    | true => simp [hb, onesM_eq m is r]
    | false => simp [hb, onesM_eq m is r]
/-- n ones. -/
def fullM (n : Nat) : Nat := Nat.sub (Nat.shiftLeft 1 n) 1
def canonM (anc : Nat → Nat) (n : Nat) (all : List Nat) : List Nat → Nat → List Nat
  | [], m => onesM (Nat.sub (fullM n) m) all []
  | e :: es, m => CheckFast.force (Nat.land (anc e) (Nat.sub (fullM n) m)) fun new => onesM new all (e :: CheckFast.force (Nat.lor (Nat.lor m new) (Nat.shiftLeft 1 e)) (canonM anc n all es))
theorem bit_testBit (m x : Nat) : bit m x = m.testBit x := by
  unfold bit Nat.testBit
  have h1 : Nat.land (Nat.shiftRight m x) 1 = 1 &&& (m >>> x) := by
    show (m >>> x) &&& 1 = _
    rw [Nat.and_comm]
  rw [h1]
  have h2 : 1 &&& (m >>> x) = (m >>> x) % 2 := by rw [Nat.and_comm]; exact Nat.and_one_is_mod _
  rw [h2]
  rcases Nat.mod_two_eq_zero_or_one (m >>> x) with h3 | h3 <;> rw [h3] <;> rfl
theorem bit_sub {n m i : Nat} (hm : m < 2 ^ n) (hi : i < n) : bit (Nat.sub (fullM n) m) i = !bit m i := by
  rw [bit_testBit, bit_testBit]
  have e : Nat.sub (fullM n) m = 2 ^ n - (m + 1) := by
    show (Nat.shiftLeft 1 n - 1) - m = _
    have : Nat.shiftLeft 1 n = 2 ^ n := by show 1 <<< n = _; rw [Nat.shiftLeft_eq, Nat.one_mul]
    rw [this]; omega
  rw [e, Nat.testBit_two_pow_sub_succ hm]
  simp [hi]
theorem canonM_eq {anc : Nat → Nat} {n : Nat} : ∀ {es acc : List Nat} {m : Nat}, (∀ i, bit m i = acc.contains i) → (∀ i ∈ acc, i < n) → (∀ e ∈ es, e < n) → m < 2 ^ n → acc ++ canonM anc n (List.range n) es m = canonGo (fun e i => (anc e).testBit i) n es acc
  | [], acc, m, hm, _, _, hlt => by
    unfold canonM canonGo
    rw [onesM_eq, List.append_nil]
    congr 1
    refine List.filter_congr fun i hi => ?_
    rw [bit_sub hlt (by simpa using hi), hm]
  | e :: es, acc, m, hm, hacc, hes, hlt => by
    unfold canonM canonGo
    rw [CheckFast.force_eq, CheckFast.force_eq, onesM_eq]
    have hf : (List.range n).filter (bit (Nat.land (anc e) (Nat.sub (fullM n) m))) = (List.range n).filter fun i => !acc.contains i && (anc e).testBit i := by
      refine List.filter_congr fun i hi => ?_
      have hi' : i < n := by simpa using hi
      rw [bit_testBit]
      show ((anc e) &&& (Nat.sub (fullM n) m)).testBit i = _
      rw [Nat.testBit_and, ← bit_testBit (Nat.sub (fullM n) m), bit_sub hlt hi', hm, Bool.and_comm]
    have hnb : ∀ i, bit (Nat.land (anc e) (Nat.sub (fullM n) m)) i = true → i < n := fun i hb => by
      rw [bit_testBit] at hb
      have hb : ((anc e) &&& (Nat.sub (fullM n) m)).testBit i = true := hb
      rw [Nat.testBit_and, Bool.and_eq_true] at hb
      by_cases hin : i < n
      · exact hin
      · exfalso
        have h2 : Nat.sub (fullM n) m < 2 ^ i := by
          have e1 : fullM n < 2 ^ n := by
            unfold fullM
            have : Nat.shiftLeft 1 n = 2 ^ n := by show 1 <<< n = _; rw [Nat.shiftLeft_eq, Nat.one_mul]
            rw [this]
            show 2 ^ n - 1 < 2 ^ n
            have := Nat.two_pow_pos n
            omega
          have e2 : 2 ^ n ≤ 2 ^ i := Nat.pow_le_pow_right (by omega) (by omega)
          show fullM n - m < 2 ^ i
          omega
        rw [Nat.testBit_lt_two_pow h2] at hb
        exact absurd hb.2 (by simp)
    rw [hf, ← canonM_eq (es := es) (acc := acc ++ ((List.range n).filter fun i => !acc.contains i && (anc e).testBit i) ++ [e]) (m := Nat.lor (Nat.lor m (Nat.land (anc e) (Nat.sub (fullM n) m))) (Nat.shiftLeft 1 e))]
    · simp
    · intro i
      rw [bit_lor]
      have h1 : bit (Nat.lor m (Nat.land (anc e) (Nat.sub (fullM n) m))) i = (bit m i || bit (Nat.land (anc e) (Nat.sub (fullM n) m)) i) := by
        rw [bit_testBit, bit_testBit, bit_testBit]
        exact Nat.testBit_or _ _ _
      rw [h1, hm]
      have h2 : ((List.range n).filter fun i => !acc.contains i && (anc e).testBit i).contains i = bit (Nat.land (anc e) (Nat.sub (fullM n) m)) i := by
        rw [← hf]
        rw [Bool.eq_iff_iff]
        simp only [List.contains_iff_mem, List.mem_filter, List.mem_range]
        exact ⟨fun h => h.2, fun h => ⟨hnb i h, h⟩⟩
      rw [List.contains_append, List.contains_append, h2]
      by_cases he : e = i
      · subst he; simp
      · have he' : ¬ i = e := fun h => he h.symm
        simp [he, he']
    · intro i hi
      rcases List.mem_append.1 hi with hi | hi
      · rcases List.mem_append.1 hi with hi | hi
        · exact hacc i hi
        · have := (List.mem_filter.1 hi).1; simpa using this
      · have : i = e := by simpa using hi
        rw [this]; exact hes e List.mem_cons_self
    · exact fun e' he' => hes e' (List.mem_cons_of_mem _ he')
    · refine Nat.or_lt_two_pow (Nat.or_lt_two_pow hlt ?_) ?_
      · refine Nat.lt_of_le_of_lt (Nat.and_le_right : Nat.land (anc e) (Nat.sub (fullM n) m) ≤ _) ?_
        show fullM n - m < 2 ^ n
        unfold fullM
        have : Nat.shiftLeft 1 n = 2 ^ n := by show 1 <<< n = _; rw [Nat.shiftLeft_eq, Nat.one_mul]
        rw [this]
        show 2 ^ n - 1 - m < 2 ^ n
        have := Nat.two_pow_pos n
        omega
      · show 1 <<< e < 2 ^ n
        rw [Nat.shiftLeft_eq, Nat.one_mul]
        exact Nat.pow_lt_pow_right (by omega) (hes e List.mem_cons_self)
def canonF (ops : Array Oper) (b : Array Nat) : List Nat := canonM (fun e => b.getD e 0) ops.size (List.range ops.size) (effs ops) 0
theorem canonF_eq (ops : Array Oper) (b : Array Nat) : canonF ops b = canon ops b := by
  unfold canonF canon
  have := canonM_eq (anc := fun e => b.getD e 0) (n := ops.size) (es := effs ops) (acc := []) (m := 0) (fun i => by rw [bit_zero]; rfl) (fun i hi => by cases hi) (fun e he => by unfold effs at he; have := (List.mem_filter.1 he).1; simpa using this) (Nat.two_pow_pos _)
  simpa using this

/-! ## code -/
def codeH (P : Program) : Code → Nat → Lv → (Out → List Value → Store → Prop) → List Value → Store → Prop
  | .skip, _, _, K, a, σ => K .normal a σ
  | .label _, _, _, K, a, σ => K .normal a σ
  | .region _ ops false, _, _, K, a, σ => seqH P ops ops.toList (fun a σ => K .normal a σ) a σ
  | .region _ ops true, _, _, K, a, σ => (fun b => drawH P ops b (canonF ops b) (fun a σ => K .normal a σ) a [σ] σ []) (CheckFast.beforeF ops)
  | .seq x y, D, U, K, a, σ =>
    bif Nat.ble (norms x) 1 then codeH P x D (usesC y U) (fun e a σ => match e with | .normal => codeH P y (maskL (defsC x) D) U K a σ | e => K e a σ) a σ
    else (fun L => jop L.length (fun K2 => codeH P x D (usesC y U) (fun e a' σ' => match e with | .normal => appN L.length K2 (L.map (aget a')) σ' | e => K e a' σ') a σ)
      (lamN L.length fun xs σ' => codeH P y (maskL (defsC x) D) U K (rejoin a x L xs) σ')) (liveJ x (usesC y U))
  | .cond c x y, D, U, K, a, σ => condH (aev a c) (codeH P x D U K a σ) (codeH P y D U K a σ)
  | .block id c, D, U, K, a, σ =>
    bif Nat.ble (norms c + exitsTo id c) 1 then codeH P c D (enterU id U) (fun e a σ => match e with | .exit j => (bif j == id then K .normal a σ else K (.exit j) a σ) | e => K e a σ) a σ
    else (fun L => jop L.length (fun K2 => codeH P c D (enterU id U) (fun e a' σ' => match e with | .exit j => (bif j == id then appN L.length K2 (L.map (aget a')) σ' else K (.exit j) a' σ') | .normal => appN L.length K2 (L.map (aget a')) σ' | .ret => K .ret a' σ') a σ)
      (lamN L.length fun xs σ' => K .normal (rejoin a c L xs) σ')) (liveJ c U)
  | .loop c, D, U, K, a, σ =>
    (fun U' => (fun L => appN L.length (lop L.length fun next => lamN L.length fun xs σ => codeH P c D U' (fun e a' σ' => match e with | .normal => appN L.length next (L.map (aget a')) σ' | e => K e a' σ') (rejoin a c L xs) σ) (L.map (aget a)) σ) (liveL c D U')) (loopU c U)
  | .exit id, _, _, K, a, σ => K (.exit id) a σ
  | .ret, _, _, K, a, σ => K .ret a σ
  | _, _, _, _, _, _ => False

theorem lop_app {n : Nat} {F : NF n → NF n} {xs : List Value} {σ : Store} (h : xs.length = n) : appN n (lop n F) xs σ ↔ ∃ k, rounds (fun next xs σ => appN n (F (lamN n next)) xs σ) k xs σ := app_lam h
theorem appN_mono : ∀ {n : Nat} {f g : NF n} (_ : ∀ xs σ, xs.length = n → appN n f xs σ → appN n g xs σ) {xs : List Value} {σ : Store}, xs.length = n → appN n f xs σ → appN n g xs σ := fun h _ _ hl hh => h _ _ hl hh

theorem codeH_mono : ∀ {c : Code} {D : Nat} {U : Lv} {K K' : Out → List Value → Store → Prop} {a : List Value} {σ : Store}, (∀ e a s, K e a s → K' e a s) → codeH P c D U K a σ → codeH P c D U K' a σ := by
  intro c
  induction c with
  | skip => intro D U K K' a σ hk h; exact hk _ _ _ h
  | label l => intro D U K K' a σ hk h; exact hk _ _ _ h
  | region id ops d =>
    intro D U K K' a σ hk h
    cases d with
    | false => exact seqH_mono (fun a s hh => hk _ _ _ hh) h
    | true => exact drawH_mono (fun a s hh => hk _ _ _ hh) h
  | seq x y ihx ihy =>
    intro D U K K' a σ hk h
    unfold codeH at h ⊢
    cases hb : Nat.ble (norms x) 1 with
    | true =>
      rw [hb] at h
      refine ihx (fun e a s hh => ?_) h
      cases e with
      | normal => exact ihy hk hh
      | _ => exact hk _ _ _ hh
    | false =>
      rw [hb] at h
      simp only [cond_false, jop] at h ⊢
      refine ihx (fun e a s hh => ?_) h
      cases e with
      | normal =>
        simp only at hh ⊢
        rw [app_lam (by simp)] at hh ⊢
        exact ihy hk hh
      | _ => exact hk _ _ _ hh
  | cond c x y ihx ihy =>
    intro D U K K' a σ hk h
    unfold codeH condH at h ⊢
    split at h
    · exact ihx hk h
    · exact ihy hk h
    · exact h
  | block id c ih =>
    intro D U K K' a σ hk h
    unfold codeH at h ⊢
    cases hb : Nat.ble (norms c + exitsTo id c) 1 with
    | true =>
      rw [hb] at h
      refine ih (fun e a s hh => ?_) h
      cases e with
      | exit j =>
        simp only at hh ⊢
        cases hb : j == id <;> rw [hb] at hh <;> simp only [cond_true, cond_false] at hh ⊢ <;> exact hk _ _ _ hh
      | _ => exact hk _ _ _ hh
    | false =>
      rw [hb] at h
      simp only [cond_false, jop] at h ⊢
      refine ih (fun e a s hh => ?_) h
      cases e with
      | exit j =>
        simp only at hh ⊢
        cases hb : j == id <;> rw [hb] at hh <;> simp only [cond_true, cond_false] at hh ⊢
        · exact hk _ _ _ hh
        · rw [app_lam (by simp)] at hh ⊢
          exact hk _ _ _ hh
      | normal =>
        simp only at hh ⊢
        rw [app_lam (by simp)] at hh ⊢
        exact hk _ _ _ hh
      | ret => exact hk _ _ _ hh
  | loop c ih =>
    intro D U K K' a σ hk h
    unfold codeH at h ⊢
    simp only at h ⊢
    rw [lop_app (by simp)] at h ⊢
    obtain ⟨n, hn⟩ := h
    refine ⟨n, ?_⟩
    have key : ∀ n xs s, xs.length = (liveL c D (loopU c U)).length → rounds (fun next xs σ => appN (liveL c D (loopU c U)).length ((fun next => lamN (liveL c D (loopU c U)).length fun xs σ => codeH P c D (loopU c U) (fun e a' σ' => match e with | .normal => appN (liveL c D (loopU c U)).length next ((liveL c D (loopU c U)).map (aget a')) σ' | e => K e a' σ') (rejoin a c (liveL c D (loopU c U)) xs) σ) (lamN (liveL c D (loopU c U)).length next)) xs σ) n xs s →
        rounds (fun next xs σ => appN (liveL c D (loopU c U)).length ((fun next => lamN (liveL c D (loopU c U)).length fun xs σ => codeH P c D (loopU c U) (fun e a' σ' => match e with | .normal => appN (liveL c D (loopU c U)).length next ((liveL c D (loopU c U)).map (aget a')) σ' | e => K' e a' σ') (rejoin a c (liveL c D (loopU c U)) xs) σ) (lamN (liveL c D (loopU c U)).length next)) xs σ) n xs s := by
      intro n
      induction n with
      | zero => intro xs s _ h; exact h
      | succ n ihn =>
        intro xs s hl h
        unfold rounds at h ⊢
        simp only at h ⊢
        rw [app_lam hl] at h ⊢
        refine ih (fun e a s h1 => ?_) h
        cases e with
        | normal =>
          simp only at h1 ⊢
          rw [app_lam (by simp)] at h1 ⊢
          exact ihn _ _ (by simp) h1
        | _ => exact hk _ _ _ h1
    exact key n _ _ (by simp) hn
  | exit id => intro D U K K' a σ hk h; exact hk _ _ _ h
  | ret => intro D U K K' a σ hk h; exact hk _ _ _ h
  | _ => intros; rename_i h; exact h.elim

theorem codeH_lin : ∀ {c : Code} {D : Nat} {U : Lv} {K : Out → List Value → Store → Prop} {a : List Value} {σ : Store}, codeH P c D U K a σ →
    ∃ e a' σ', K e a' σ' ∧ σ.next ≤ σ'.next ∧ codeH P c D U (fun e2 a2 σ2 => e2 = e ∧ a2 = a' ∧ σ2 = σ') a σ := by
  intro c
  induction c with
  | skip => intro D U K a σ h; exact ⟨.normal, a, σ, h, Nat.le_refl _, rfl, rfl, rfl⟩
  | label l => intro D U K a σ h; exact ⟨.normal, a, σ, h, Nat.le_refl _, rfl, rfl, rfl⟩
  | exit id => intro D U K a σ h; exact ⟨.exit id, a, σ, h, Nat.le_refl _, rfl, rfl, rfl⟩
  | ret => intro D U K a σ h; exact ⟨.ret, a, σ, h, Nat.le_refl _, rfl, rfl, rfl⟩
  | region id ops d =>
    intro D U K a σ h
    cases d with
    | false =>
      obtain ⟨a', σ', k1, k2⟩ := seqH_lin h
      obtain ⟨_, _, ⟨rfl, rfl⟩, _, k3, _⟩ := seqOps_lin (ds := ops.toList.filterMap (·.dst)) (fun o ho d hd => List.mem_filterMap.2 ⟨o, ho, hd⟩) (seqH_sound k2)
      exact ⟨.normal, _, _, k1, k3, seqH_mono (fun a s hh => ⟨rfl, hh⟩) k2⟩
    | true =>
      obtain ⟨a', σ', k1, k2⟩ := drawH_lin h
      obtain ⟨_, _, ⟨rfl, rfl⟩, _, k3, _⟩ := drawOps_lin (ds := ops.toList.filterMap (·.dst)) (fun i o ho d hd => List.mem_filterMap.2 ⟨o, by rw [← Array.mem_def]; exact Array.mem_of_getElem? ho, hd⟩) (drawH_sound .nil k2)
      exact ⟨.normal, _, _, k1, k3, drawH_mono (fun a s hh => ⟨rfl, hh⟩) k2⟩
  | seq x y ihx ihy =>
    intro D U K a σ h
    unfold codeH at h ⊢
    cases hb : Nat.ble (norms x) 1 with
    | true =>
      rw [hb] at h
      simp only [cond_true] at h ⊢
      obtain ⟨e, a1, σ1, h1, hn1, h2⟩ := ihx h
      cases e with
      | normal =>
        obtain ⟨e2, a2, σ2, k1, kn, k2⟩ := ihy h1
        refine ⟨e2, a2, σ2, k1, Nat.le_trans hn1 kn, codeH_mono (fun e a s hh => ?_) h2⟩
        obtain ⟨rfl, rfl, rfl⟩ := hh
        exact k2
      | exit j => exact ⟨.exit j, a1, σ1, h1, hn1, codeH_mono (fun e a s hh => by obtain ⟨rfl, rfl, rfl⟩ := hh; exact ⟨rfl, rfl, rfl⟩) h2⟩
      | ret => exact ⟨.ret, a1, σ1, h1, hn1, codeH_mono (fun e a s hh => by obtain ⟨rfl, rfl, rfl⟩ := hh; exact ⟨rfl, rfl, rfl⟩) h2⟩
    | false =>
      rw [hb] at h
      simp only [cond_false, jop] at h ⊢
      obtain ⟨e, a1, σ1, h1, hn1, h2⟩ := ihx h
      cases e with
      | normal =>
        simp only at h1
        rw [app_lam (by simp)] at h1
        obtain ⟨e2, a2, σ2, k1, kn, k2⟩ := ihy h1
        refine ⟨e2, a2, σ2, k1, Nat.le_trans hn1 kn, codeH_mono (fun e a s hh => ?_) h2⟩
        obtain ⟨rfl, rfl, rfl⟩ := hh
        simp only
        rw [app_lam (by simp)]
        exact k2
      | exit j => exact ⟨.exit j, a1, σ1, h1, hn1, codeH_mono (fun e a s hh => by obtain ⟨rfl, rfl, rfl⟩ := hh; exact ⟨rfl, rfl, rfl⟩) h2⟩
      | ret => exact ⟨.ret, a1, σ1, h1, hn1, codeH_mono (fun e a s hh => by obtain ⟨rfl, rfl, rfl⟩ := hh; exact ⟨rfl, rfl, rfl⟩) h2⟩
  | cond c x y ihx ihy =>
    intro D U K a σ h
    unfold codeH condH at h ⊢
    split at h
    · exact ihx h
    · exact ihy h
    · exact h.elim
  | block id c ih =>
    intro D U K a σ h
    unfold codeH at h ⊢
    cases hb : Nat.ble (norms c + exitsTo id c) 1 with
    | true =>
      rw [hb] at h
      simp only [cond_true] at h ⊢
      obtain ⟨e, a1, σ1, h1, hn1, h2⟩ := ih h
      cases e with
      | normal => exact ⟨.normal, a1, σ1, h1, hn1, codeH_mono (fun e a s hh => by obtain ⟨rfl, rfl, rfl⟩ := hh; exact ⟨rfl, rfl, rfl⟩) h2⟩
      | ret => exact ⟨.ret, a1, σ1, h1, hn1, codeH_mono (fun e a s hh => by obtain ⟨rfl, rfl, rfl⟩ := hh; exact ⟨rfl, rfl, rfl⟩) h2⟩
      | exit j =>
        simp only at h1
        cases hj : j == id with
        | true =>
          rw [hj] at h1
          exact ⟨.normal, a1, σ1, h1, hn1, codeH_mono (fun e a s hh => by obtain ⟨rfl, rfl, rfl⟩ := hh; simp only [hj, cond_true]; exact ⟨trivial, trivial, trivial⟩) h2⟩
        | false =>
          rw [hj] at h1
          exact ⟨.exit j, a1, σ1, h1, hn1, codeH_mono (fun e a s hh => by obtain ⟨rfl, rfl, rfl⟩ := hh; simp only [hj, cond_false]; exact ⟨trivial, trivial, trivial⟩) h2⟩
    | false =>
      rw [hb] at h
      simp only [cond_false, jop] at h ⊢
      obtain ⟨e, a1, σ1, h1, hn1, h2⟩ := ih h
      cases e with
      | normal =>
        simp only at h1
        rw [app_lam (by simp)] at h1
        exact ⟨.normal, _, σ1, h1, hn1, codeH_mono (fun e a s hh => by obtain ⟨rfl, rfl, rfl⟩ := hh; simp only; rw [app_lam (by simp)]; exact ⟨trivial, rfl, rfl⟩) h2⟩
      | ret => exact ⟨.ret, a1, σ1, h1, hn1, codeH_mono (fun e a s hh => by obtain ⟨rfl, rfl, rfl⟩ := hh; exact ⟨rfl, rfl, rfl⟩) h2⟩
      | exit j =>
        simp only at h1
        cases hj : j == id with
        | true =>
          rw [hj] at h1
          simp only [cond_true] at h1
          rw [app_lam (by simp)] at h1
          exact ⟨.normal, _, σ1, h1, hn1, codeH_mono (fun e a s hh => by obtain ⟨rfl, rfl, rfl⟩ := hh; simp only [hj, cond_true]; rw [app_lam (by simp)]; exact ⟨trivial, rfl, rfl⟩) h2⟩
        | false =>
          rw [hj] at h1
          exact ⟨.exit j, a1, σ1, h1, hn1, codeH_mono (fun e a s hh => by obtain ⟨rfl, rfl, rfl⟩ := hh; simp only [hj, cond_false]; exact ⟨trivial, trivial, trivial⟩) h2⟩
  | loop c ih =>
    intro D U K a σ h
    unfold codeH at h ⊢
    simp only at h ⊢
    rw [lop_app (by simp)] at h
    obtain ⟨n, hn⟩ := h
    have key : ∀ n xs s, xs.length = (liveL c D (loopU c U)).length → rounds (fun next xs σ => appN (liveL c D (loopU c U)).length ((fun next => lamN (liveL c D (loopU c U)).length fun xs σ => codeH P c D (loopU c U) (fun e a' σ' => match e with | .normal => appN (liveL c D (loopU c U)).length next ((liveL c D (loopU c U)).map (aget a')) σ' | e => K e a' σ') (rejoin a c (liveL c D (loopU c U)) xs) σ) (lamN (liveL c D (loopU c U)).length next)) xs σ) n xs s →
        ∃ e a' σ', K e a' σ' ∧ s.next ≤ σ'.next ∧ rounds (fun next xs σ => appN (liveL c D (loopU c U)).length ((fun next => lamN (liveL c D (loopU c U)).length fun xs σ => codeH P c D (loopU c U) (fun e2 a2 σ2 => match e2 with | .normal => appN (liveL c D (loopU c U)).length next ((liveL c D (loopU c U)).map (aget a2)) σ2 | e2 => e2 = e ∧ a2 = a' ∧ σ2 = σ') (rejoin a c (liveL c D (loopU c U)) xs) σ) (lamN (liveL c D (loopU c U)).length next)) xs σ) n xs s := by
      intro n
      induction n with
      | zero => intro xs s _ h; exact h.elim
      | succ n ihn =>
        intro xs s hl h
        unfold rounds at h
        simp only at h
        rw [app_lam hl] at h
        obtain ⟨e, a1, σ1, h1, hn1, h2⟩ := ih h
        cases e with
        | normal =>
          simp only at h1
          rw [app_lam (by simp)] at h1
          obtain ⟨e, a', σ', k1, kn, k2⟩ := ihn _ _ (by simp) h1
          refine ⟨e, a', σ', k1, Nat.le_trans hn1 kn, ?_⟩
          unfold rounds
          simp only
          rw [app_lam hl]
          refine codeH_mono (fun e a s hh => ?_) h2
          obtain ⟨rfl, rfl, rfl⟩ := hh
          simp only
          rw [app_lam (by simp)]
          exact k2
        | exit j =>
          refine ⟨.exit j, a1, σ1, h1, hn1, ?_⟩
          unfold rounds
          simp only
          rw [app_lam hl]
          exact codeH_mono (fun e a s hh => by obtain ⟨rfl, rfl, rfl⟩ := hh; exact ⟨rfl, rfl, rfl⟩) h2
        | ret =>
          refine ⟨.ret, a1, σ1, h1, hn1, ?_⟩
          unfold rounds
          simp only
          rw [app_lam hl]
          exact codeH_mono (fun e a s hh => by obtain ⟨rfl, rfl, rfl⟩ := hh; exact ⟨rfl, rfl, rfl⟩) h2
    obtain ⟨e, a', σ', k1, kn, k2⟩ := key n _ _ (by simp) hn
    exact ⟨e, a', σ', k1, kn, (lop_app (by simp)).2 ⟨n, k2⟩⟩
  | _ => intros; rename_i h; exact h.elim

theorem codeH_sound : ∀ {c : Code} {D : Nat} {U : Lv} {K : Out → List Value → Store → Prop} {act : List Value} {σ : Store} {M : Places} {w : World} {a : Act} {Q : Exit → Act → World → Prop}, okCode P c = true → ActR ds M act a → Rel M σ w → codeH P c D U K act σ →
    (∀ e act' σ' M' w' a', K e act' σ' → Same (defsC c) act act' → ActR ds M' act' a' → Rel M' σ' w' → Step σ M w σ' M' w' → Q (exitOf e) a' w') → c.wp P Q a w := by
  intro c
  induction c with
  | skip => intro D U K act σ M w a Q _ ha hr h hq; exact wp_skip (hq .normal act σ M w a h (Same.refl _ _) ha hr (Step.refl _ _ _))
  | label l => intro D U K act σ M w a Q _ ha hr h hq; exact wp_label (hq .normal act σ M w a h (Same.refl _ _) ha hr (Step.refl _ _ _))
  | exit id => intro D U K act σ M w a Q _ ha hr h hq; exact wp_exit (hq (.exit id) act σ M w a h (Same.refl _ _) ha hr (Step.refl _ _ _))
  | ret => intro D U K act σ M w a Q _ ha hr h hq; exact wp_ret (hq .ret act σ M w a h (Same.refl _ _) ha hr (Step.refl _ _ _))
  | region id ops d =>
    intro D U K act σ M w a Q hok ha hr h hq
    cases d with
    | false =>
      obtain ⟨a', σ', k1, k2, k3, k4⟩ := seqOps_lin (ds := ops.toList.filterMap (·.dst)) (fun o ho d hd => List.mem_filterMap.2 ⟨o, ho, hd⟩) (seqH_sound h)
      exact seq_sound (List.all_eq_true.1 hok) ha hr k4 fun act' σ' M' w' a' h1 h2 h3 h4 => by
        obtain ⟨rfl, rfl⟩ := h1
        exact hq .normal act' _ M' w' a' k1 k2 h2 h3 h4
    | true =>
      have h : drawH P ops (CheckFast.beforeF ops) (canonF ops (CheckFast.beforeF ops)) (fun a σ => K .normal a σ) act [σ] σ [] := h
      rw [canonF_eq] at h
      obtain ⟨a', σ', k1, k2, k3, k4⟩ := drawOps_lin (ds := ops.toList.filterMap (·.dst)) (fun i o ho d hd => List.mem_filterMap.2 ⟨o, by rw [← Array.mem_def]; exact Array.mem_of_getElem? ho, hd⟩) (drawH_sound .nil h)
      exact draw_sound hok ha hr k4 fun act' σ' M' w' a' h1 h2 h3 h4 => by
        obtain ⟨rfl, rfl⟩ := h1
        exact hq .normal act' _ M' w' a' k1 k2 h2 h3 h4
  | seq x y ihx ihy =>
    intro D U K act σ M w a Q hok ha hr h hq
    simp only [okCode, Bool.and_eq_true] at hok
    have hx : ∀ t, t ∈ defsC x → t ∈ defsC (.seq x y) := fun t ht => by simp [defsC, ht]
    have hy : ∀ t, t ∈ defsC y → t ∈ defsC (.seq x y) := fun t ht => by simp [defsC, ht]
    unfold codeH at h
    cases hb : Nat.ble (norms x) 1 with
    | true =>
      rw [hb] at h
      simp only [cond_true] at h
      refine wp_seq (ihx hok.1 ha hr h fun e act' σ' M' w' a' h1 hs h2 h3 h4 => ?_)
      cases e with
      | normal => exact ihy hok.2 h2 h3 h1 fun e act2 σ2 M2 w2 a2 k1 ks k2 k3 k4 => hq e act2 σ2 M2 w2 a2 k1 ((hs.more hx).trans (ks.more hy)) k2 k3 (h4.trans k4)
      | exit j => exact hq (.exit j) act' σ' M' w' a' h1 (hs.more hx) h2 h3 h4
      | ret => exact hq .ret act' σ' M' w' a' h1 (hs.more hx) h2 h3 h4
    | false =>
      rw [hb] at h
      simp only [cond_false, jop] at h
      refine wp_seq (ihx hok.1 ha hr h fun e act' σ' M' w' a' h1 hs h2 h3 h4 => ?_)
      cases e with
      | normal =>
        simp only at h1
        rw [app_lam (by simp)] at h1
        obtain ⟨r1, r2⟩ := same_rejoin (L := liveJ x (usesC y U)) (fun t ht => lives_sub ht) hs h2
        exact ihy hok.2 r1 h3 h1 fun e act2 σ2 M2 w2 a2 k1 ks k2 k3 k4 => hq e act2 σ2 M2 w2 a2 k1 (((rejoin_same (fun t ht => lives_sub ht)).more hx).trans (ks.more hy)) k2 k3 (h4.trans k4)
      | exit j => exact hq (.exit j) act' σ' M' w' a' h1 (hs.more hx) h2 h3 h4
      | ret => exact hq .ret act' σ' M' w' a' h1 (hs.more hx) h2 h3 h4
  | cond c x y ihx ihy =>
    intro D U K act σ M w a Q hok ha hr h hq
    simp only [okCode, Bool.and_eq_true] at hok
    have hc := ha.ev hok.1.1
    have hx : ∀ t, t ∈ defsC x → t ∈ defsC (.cond c x y) := fun t ht => by simp [defsC, ht]
    have hy : ∀ t, t ∈ defsC y → t ∈ defsC (.cond c x y) := fun t ht => by simp [defsC, ht]
    unfold codeH condH at h
    split at h
    · rename_i he
      rw [he] at hc
      exact wp_cond_true hc.bool_ (ihx hok.1.2 ha hr h fun e act' σ' M' w' a' h1 hs => hq e act' σ' M' w' a' h1 (hs.more hx))
    · rename_i he
      rw [he] at hc
      exact wp_cond_false hc.bool_ (ihy hok.2 ha hr h fun e act' σ' M' w' a' h1 hs => hq e act' σ' M' w' a' h1 (hs.more hy))
    · exact h.elim
  | block id c ih =>
    intro D U K act σ M w a Q hok ha hr h hq
    unfold codeH at h
    cases hb : Nat.ble (norms c + exitsTo id c) 1 with
    | true =>
      rw [hb] at h
      simp only [cond_true] at h
      refine wp_block (ih hok ha hr h fun e act' σ' M' w' a' h1 hs h2 h3 h4 => ?_)
      cases e with
      | normal => exact hq .normal act' σ' M' w' a' h1 hs h2 h3 h4
      | ret => exact hq .ret act' σ' M' w' a' h1 hs h2 h3 h4
      | exit j =>
        simp only at h1
        show (if j = id then Q .normal a' w' else Q (.exit j) a' w')
        by_cases e : j = id
        · rw [if_pos e]
          have hb : (j == id) = true := by simp [e]
          rw [hb] at h1
          exact hq .normal act' σ' M' w' a' h1 hs h2 h3 h4
        · rw [if_neg e]
          have hb : (j == id) = false := by simp [e]
          rw [hb] at h1
          exact hq (.exit j) act' σ' M' w' a' h1 hs h2 h3 h4
    | false =>
      rw [hb] at h
      simp only [cond_false, jop] at h
      have hin : ∀ t ∈ liveJ c U, t ∈ defsC c := fun t ht => lives_sub ht
      refine wp_block (ih hok ha hr h fun e act' σ' M' w' a' h1 hs h2 h3 h4 => ?_)
      cases e with
      | normal =>
        simp only at h1
        rw [app_lam (by simp)] at h1
        obtain ⟨r1, r2⟩ := same_rejoin hin hs h2
        exact hq .normal _ σ' M' w' a' h1 (rejoin_same hin) r1 h3 h4
      | ret => exact hq .ret act' σ' M' w' a' h1 hs h2 h3 h4
      | exit j =>
        simp only at h1
        show (if j = id then Q .normal a' w' else Q (.exit j) a' w')
        by_cases e : j = id
        · rw [if_pos e]
          have hb : (j == id) = true := by simp [e]
          rw [hb] at h1
          simp only [cond_true] at h1
          rw [app_lam (by simp)] at h1
          obtain ⟨r1, r2⟩ := same_rejoin hin hs h2
          exact hq .normal _ σ' M' w' a' h1 (rejoin_same hin) r1 h3 h4
        · rw [if_neg e]
          have hb : (j == id) = false := by simp [e]
          rw [hb] at h1
          exact hq (.exit j) act' σ' M' w' a' h1 hs h2 h3 h4
  | loop c ih =>
    intro D U K act σ M w a Q hok ha hr h hq
    unfold codeH at h
    simp only at h
    rw [lop_app (by simp)] at h
    obtain ⟨n, hn⟩ := h
    refine wp_loop_rounds n ?_
    have hin : ∀ t ∈ liveL c D (loopU c U), t ∈ defsC c := fun t ht => lives_sub ht
    have key : ∀ (n : Nat) (act1 : List Value) (σ1 : Store) (M1 : Places) (w1 : World) (a1 : Act), ActR ds M1 act1 a1 → Same (defsC c) act act1 → Rel M1 σ1 w1 → Step σ M w σ1 M1 w1 →
        rounds (fun next xs σ => appN (liveL c D (loopU c U)).length ((fun next => lamN (liveL c D (loopU c U)).length fun xs σ => codeH P c D (loopU c U) (fun e a' σ' => match e with | .normal => appN (liveL c D (loopU c U)).length next ((liveL c D (loopU c U)).map (aget a')) σ' | e => K e a' σ') (rejoin act c (liveL c D (loopU c U)) xs) σ) (lamN (liveL c D (loopU c U)).length next)) xs σ) n ((liveL c D (loopU c U)).map (aget act1)) σ1 → Code.rounds P c Q n a1 w1 := by
      intro n
      induction n with
      | zero => intro _ _ _ _ _ _ _ _ _ h; exact h.elim
      | succ n ihn =>
        intro act1 σ1 M1 w1 a1 ha1 hs hr1 hst h1
        unfold rounds at h1
        simp only at h1
        rw [app_lam (by simp)] at h1
        obtain ⟨r1, r2⟩ := same_rejoin hin hs ha1
        rw [rounds_succ]
        refine ih hok r1 hr1 h1 fun e' act' σ' M' w' a' m1 ms m2 m3 m4 => ?_
        have hs' : Same (defsC c) act act' := (rejoin_same hin).trans ms
        cases e' with
        | normal =>
          simp only at m1
          rw [app_lam (by simp)] at m1
          exact ihn act' σ' M' w' a' m2 hs' m3 (hst.trans m4) m1
        | exit j => exact hq (.exit j) act' σ' M' w' a' m1 hs' m2 m3 (hst.trans m4)
        | ret => exact hq .ret act' σ' M' w' a' m1 hs' m2 m3 (hst.trans m4)
    exact key n act σ M w a ha (Same.refl _ _) hr (Step.refl _ _ _) hn
  | _ => intros; rename_i h _; exact h.elim
end Go.Am
