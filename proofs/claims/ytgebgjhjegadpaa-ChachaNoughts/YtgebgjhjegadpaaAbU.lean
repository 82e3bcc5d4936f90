/-
  The abstract machine: a region's operations, in whatever order.
-/
import Derived.Test.YtgebgjhjegadpaaAbT
namespace Go.Proofs.Ytgebgjhjegadpaa
open Go

/-! What an operation's meaning hangs on. -/
def valF (T : Nat → AV) : Operand → AV
  | .tmp t => T t
  | .const v => litAV v
  | _ => .any

theorem St.val_eq (s : St) : s.val = valF (lkT s.T) := by
  funext x
  cases x <;> rfl

theorem opSem_congr {E : Env} {m : SubMode} {ρ ρ' : Operand → AV} {nx : Nat} (op : Op) (h : ∀ x ∈ op.operands, ρ x = ρ' x) : opSem E m ρ nx op = opSem E m ρ' nx op := by
  have pairs : ∀ ps : Array (Nat × Operand), (∀ x ∈ (ps.toList.map (·.2)).toArray, ρ x = ρ' x) → partsAV ρ ps = partsAV ρ' ps := fun ps hp => by
    unfold partsAV
    refine List.map_congr_left fun p hm => ?_
    rw [hp p.2 (by simp only [List.mem_toArray, List.mem_map]; exact ⟨p, hm, rfl⟩)]
  cases op <;> simp only [Op.operands] at h <;> simp only [opSem]
  case build t ps => rw [pairs ps h]
  case buildSlice t n ps => rw [pairs ps h]
  case makeFunc fn first captured =>
    cases fn <;> simp only
    case func f =>
      have h1 : first.toList.map ρ = first.toList.map ρ' := List.map_congr_left fun x hx => h x (by simp [Array.mem_toList_iff.1 hx])
      have h2 : captured.toList.map ρ = captured.toList.map ρ' := List.map_congr_left fun x hx => h x (by simp [Array.mem_toList_iff.1 hx])
      rw [h1, h2]
  case call c =>
    unfold callOp
    have hargs : c.args.toList.map ρ = c.args.toList.map ρ' := List.map_congr_left fun x hx => h x (by simp [Call.operands, Array.mem_toList_iff.1 hx])
    rw [hargs]
    cases hc : c.callee with
    | value f =>
      have hf : ρ f = ρ' f := h f (by simp [Call.operands, hc])
      cases f <;> simp only [hf]
    | invoke r m => rfl
    | builtin b => rfl
  case slice t x lo hi mx => cases lo <;> cases hi <;> cases mx <;> simp_all [refAV]
  all_goals (first | rfl | (simp_all; done))

/-! Choosing among changes. -/
def selV {V : Type} (S : Nat → Bool) : Nat → List (Option V) → V → V
  | _, [], x => x
  | i, some v :: us, x => selV S (i + 1) us (cond (S i) v x)
  | i, none :: us, x => selV S (i + 1) us x

theorem selV_congr {V : Type} {S S' : Nat → Bool} : ∀ {us : List (Option V)} {i : Nat} {x : V}, (∀ (k : Nat) (u : V), us[k]? = some (some u) → S (i + k) = S' (i + k)) → selV S i us x = selV S' i us x
  | [], _, _, _ => rfl
  | some v :: us, i, x, h => by
    simp only [selV]
    rw [show S i = S' i from h 0 v rfl]
    exact selV_congr fun k u e => by have := h (k + 1) u (by simpa using e); rw [show i + 1 + k = i + (k + 1) by omega]; exact this
  | none :: us, i, x, h => by
    simp only [selV]
    exact selV_congr fun k u e => by have := h (k + 1) u (by simpa using e); rw [show i + 1 + k = i + (k + 1) by omega]; exact this

theorem selV_none {V : Type} {S : Nat → Bool} : ∀ {us : List (Option V)} {i : Nat} {x : V}, (∀ (k : Nat) (u : V), us[k]? = some (some u) → S (i + k) = false) → selV S i us x = x
  | [], _, _, _ => rfl
  | some v :: us, i, x, h => by
    have h0 : S i = false := h 0 v rfl
    simp only [selV, h0, cond_false]
    exact selV_none fun k u e => by have := h (k + 1) u (by simpa using e); rw [show i + 1 + k = i + (k + 1) by omega]; exact this
  | none :: us, i, x, h => by
    simp only [selV]
    exact selV_none fun k u e => by have := h (k + 1) u (by simpa using e); rw [show i + 1 + k = i + (k + 1) by omega]; exact this

theorem selV_last {V : Type} {S : Nat → Bool} : ∀ {us : List (Option V)} {i j : Nat} {x v : V}, us[j]? = some (some v) → S (i + j) = true → (∀ (k : Nat) (u : V), j < k → us[k]? = some (some u) → S (i + k) = false) → selV S i us x = v
  | [], _, _, _, _, h, _, _ => by simp at h
  | u :: us, i, 0, x, v, h, hS, hk => by
    simp only [List.getElem?_cons_zero, Option.some.injEq] at h
    subst h
    have hS : S i = true := hS
    simp only [selV, hS, cond_true]
    exact selV_none fun k u e => by have := hk (k + 1) u (by omega) (by simpa using e); rw [show i + 1 + k = i + (k + 1) by omega]; exact this
  | u :: us, i, j + 1, x, v, h, hS, hk => by
    have h : us[j]? = some (some v) := by simpa using h
    have ih : ∀ y, selV S (i + 1) us y = v := fun y => selV_last h (by rw [show i + 1 + j = i + (j + 1) by omega]; exact hS) fun k u hj e => by
      have := hk (k + 1) u (by omega) (by simpa using e); rw [show i + 1 + k = i + (k + 1) by omega]; exact this
    cases u <;> exact ih _

abbrev Pr := Oper × Did

def putF (d : Option Nat) (v : AV) (T : Nat → AV) : Nat → AV := fun t => if d = some t then v else T t

def selT (S : Nat → Bool) : Nat → List Pr → (Nat → AV) → Nat → AV
  | _, [], T => T
  | i, p :: ps, T => selT S (i + 1) ps (cond (S i) (putF p.1.dst p.2.out.v T) T)

def selH (S : Nat → Bool) : Nat → List Pr → (Nat → Option Blk) → Nat → Option Blk
  | _, [], H => H
  | i, p :: ps, H => selH S (i + 1) ps (cond (S i) (happ p.2.out H) H)

def selD (S : Nat → Bool) (ps : List Pr) (D : Nat → Prop) : Nat → Prop := fun n => D n ∨ ∃ k p, ps[k]? = some p ∧ S k = true ∧ (lkF p.2.out.nw n).isSome = true

def updT (t : Nat) (p : Pr) : Option AV := if p.1.dst = some t then some p.2.out.v else none

def wrU : List (Nat × Option Blk) → Nat → Option (Option Blk) → Option (Option Blk)
  | [], _, u => u
  | (m, c) :: r, n, u => wrU r n (if n = m then some c else u)

def updH (n : Nat) (p : Pr) : Option (Option Blk) := match lkF p.2.out.nw n with
  | some c => some (some c)
  | none => wrU p.2.out.wr n none

theorem wrF_wrU : ∀ (wr : List (Nat × Option Blk)) (H : Nat → Option Blk) (n : Nat) (u : Option (Option Blk)), H n = u.getD (H n) → wrF wr H n = (wrU wr n u).getD (H n)
  | [], H, n, u, h => by simp only [wrF, wrU]; exact h
  | (m, c) :: r, H, n, u, h => by
    simp only [wrF, wrU]
    by_cases hn : n = m
    · subst hn
      rw [wrF_wrU r _ n (some c) (by simp)]
      simp only [if_true]
      cases hw : wrU r n (some c) with
      | none =>
        exfalso
        have : ∀ (wr : List (Nat × Option Blk)) (u : Option (Option Blk)), u.isSome = true → (wrU wr n u).isSome = true := by
          intro wr
          induction wr with
          | nil => intro u hu; exact hu
          | cons q wr ih => intro u hu; simp only [wrU]; apply ih; split <;> simp_all
        have := this r (some c) rfl
        rw [hw] at this; cases this
      | some x => rfl
    · rw [wrF_wrU r _ n u (by simp only [hn, if_false]; exact h)]
      simp only [hn, if_false]

theorem happ_updH (p : Pr) (H : Nat → Option Blk) (n : Nat) : happ p.2.out H n = (updH n p).getD (H n) := by
  unfold happ updH
  cases lkF p.2.out.nw n with
  | some c => rfl
  | none => exact wrF_wrU _ H n none rfl

theorem wrU_touch : ∀ {wr : List (Nat × Option Blk)} {n : Nat} {u : Option (Option Blk)}, (wrU wr n u).isSome = true → u.isSome = true ∨ n ∈ wr.map (·.1)
  | [], n, u, h => .inl h
  | (m, c) :: r, n, u, h => by
    rcases wrU_touch (wr := r) h with h | h
    · by_cases hn : n = m
      · exact .inr (by simp [hn])
      · simp only [hn, if_false] at h; exact .inl h
    · exact .inr (by simp only [List.map_cons, List.mem_cons]; exact .inr h)

theorem lkF_mem {α : Type} : ∀ {l : List (Nat × α)} {n : Nat}, (lkF l n).isSome = true → n ∈ l.map (·.1)
  | [], n, h => by simp [lkF] at h
  | (m, c) :: r, n, h => by
    unfold lkF at h
    split at h
    · rename_i hb; simp [Nat.eq_of_beq_eq_true hb]
    · simp only [List.map_cons, List.mem_cons]; exact .inr (lkF_mem h)

theorem updH_touch {n : Nat} {p : Pr} (h : (updH n p).isSome = true) : n ∈ p.2.tch := by
  unfold updH at h
  unfold Did.tch
  rw [List.mem_append]
  split at h
  · rename_i c hc; exact .inr (lkF_mem (by rw [hc]; rfl))
  · rcases wrU_touch h with h | h
    · cases h
    · exact .inl h

theorem selT_get (S : Nat → Bool) (t : Nat) : ∀ (ps : List Pr) (i : Nat) (T : Nat → AV), selT S i ps T t = selV S i (ps.map (updT t)) (T t)
  | [], _, _ => rfl
  | p :: ps, i, T => by
    simp only [selT, List.map_cons]
    rw [selT_get S t ps]
    by_cases hd : p.1.dst = some t
    · simp only [updT, hd, if_true, selV]
      cases S i <;> simp [putF]
    · simp only [updT, hd, if_false, selV]
      cases S i <;> simp [putF, hd]

theorem selH_get (S : Nat → Bool) (n : Nat) : ∀ (ps : List Pr) (i : Nat) (H : Nat → Option Blk), selH S i ps H n = selV S i (ps.map (updH n)) (H n)
  | [], _, _ => rfl
  | p :: ps, i, H => by
    simp only [selH, List.map_cons]
    rw [selH_get S n ps]
    have := happ_updH p H n
    cases hu : updH n p with
    | some c =>
      rw [hu] at this
      simp only [selV]
      cases S i
      · rfl
      · simp only [cond_true, this, Option.getD_some]
    | none =>
      rw [hu] at this
      simp only [selV]
      cases S i
      · rfl
      · simp only [cond_true, this, Option.getD_none]

/-! The trace that the evaluator leaves. -/
def GuardIs (ops : Array Oper) (o : Oper) (T : Nat → AV) (b : Bool) : Prop :=
  match o.guard with
  | none => b = true
  | some (_, want) => ∃ d c, guardDst ops o = some d ∧ T d = .s (.bool c) ∧ b = (c == want)

def Step (X : Kit) (ops : Array Oper) (o : Oper) (T : Nat → AV) (H : Nat → Option Blk) (nx : Nat) (r : Did) : Prop :=
  dstOk X.dk o.dst = true ∧
  ((GuardIs ops o T true ∧ ∃ tr, (opSem X.E X.m (valF T) nx o.op).run H = some (tr, r.rd) ∧ tr.get = some r.out ∧ newOk nx r.out.nw = true) ∨ (GuardIs ops o T false ∧ r = ⟨[], Out.val .any⟩))

def TraceP (X : Kit) (ops : Array Oper) : List Oper → List Did → (Nat → AV) → (Nat → Option Blk) → Nat → Prop
  | [], [], _, _, _ => True
  | o :: os, r :: rs, T, H, nx => Step X ops o T H nx r ∧ TraceP X ops os rs (putF o.dst r.out.v T) (happ r.out H) (nx + r.out.nw.length)
  | _, _, _, _, _ => False

theorem cps_get {α β : Type} {K : α → Option β} {b : β} : ∀ {t : Tr α}, t.cps K = some b → ∃ a, t.get = some a ∧ K a = some b
  | .leaf a, h => ⟨a, rfl, h⟩
  | .need c t, h => by
    cases c with
    | false => simp [Tr.cps] at h
    | true => simp only [Tr.cps, cond_true] at h; obtain ⟨a, h1, h2⟩ := cps_get h; exact ⟨a, by simpa [Tr.get] using h1, h2⟩
  | .br c x y, h => by
    cases c with
    | false => simp only [Tr.cps, cond_false] at h; obtain ⟨a, h1, h2⟩ := cps_get h; exact ⟨a, by simpa [Tr.get] using h1, h2⟩
    | true => simp only [Tr.cps, cond_true] at h; obtain ⟨a, h1, h2⟩ := cps_get h; exact ⟨a, by simpa [Tr.get] using h1, h2⟩
  | .fail, h => by simp [Tr.cps] at h

theorem beq_false {m n : Nat} (h : m ≠ n) : Nat.beq m n = false := by
  cases hb : Nat.beq m n with
  | false => rfl
  | true => exact absurd (Nat.eq_of_beq_eq_true hb) h

theorem lkT_up : ∀ (d : Nat) (v : AV) (T : List (Nat × AV)) (t : Nat), lkT (upT d v T) t = if d = t then v else lkT T t
  | d, v, [], t => by
    simp only [upT, lkT]
    by_cases h : d = t
    · subst h; simp
    · simp [beq_false h, h]
  | d, v, (k, u) :: r, t => by
    unfold upT
    by_cases hk : k = d
    · subst hk
      simp only [Nat.beq_refl, lkT]
      by_cases h : k = t
      · subst h; simp
      · simp [beq_false h, h]
    · simp only [beq_false hk, lkT]
      by_cases h : k = t
      · subst h
        have : ¬ d = k := fun e => hk e.symm
        simp [this]
      · simp only [beq_false h]; exact lkT_up d v r t

theorem lkF_upH : ∀ (n : Nat) (c : Option Blk) (H : List (Nat × Blk)) (m : Nat), lkF (upH n c H) m = if m = n then c else lkF H m
  | n, none, [], m => by simp [upH, lkF]
  | n, some c, [], m => by
    by_cases h : m = n
    · subst h; simp [upH, lkF]
    · simp [upH, lkF, beq_false (fun e => h e.symm : ¬ n = m), h]
  | n, oc, (k, u) :: r, m => by
    by_cases hk : k = n
    · subst hk
      cases oc with
      | some c =>
        have e : upH k (some c) ((k, u) :: r) = (k, c) :: r := by simp [upH]
        rw [e]
        by_cases h : m = k
        · subst h; simp [lkF]
        · simp [lkF, beq_false (fun e => h e.symm : ¬ k = m), h]
      | none =>
        have e : upH k none ((k, u) :: r) = upH k none r := by simp [upH]
        rw [e, lkF_upH k none r m]
        by_cases h : m = k
        · subst h; simp
        · simp [lkF, beq_false (fun e => h e.symm : ¬ k = m), h]
    · have e : upH n oc ((k, u) :: r) = (k, u) :: upH n oc r := by
        cases oc <;> simp [upH, beq_false hk]
      rw [e]
      by_cases h : m = k
      · subst h; simp [lkF, hk]
      · simp only [lkF, beq_false (fun e => h e.symm : ¬ k = m)]; exact lkF_upH n oc r m

theorem lkF_upHs : ∀ (wr : List (Nat × Option Blk)) (H : List (Nat × Blk)), lkF (upHs wr H) = wrF wr (lkF H)
  | [], _ => rfl
  | (n, c) :: r, H => by
    rw [upHs, lkF_upHs r, wrF]
    congr 1
    funext m
    exact lkF_upH n c H m

theorem lkF_append {α : Type} : ∀ (a b : List (Nat × α)) (n : Nat), lkF (a ++ b) n = match lkF a n with
    | some c => some c
    | none => lkF b n
  | [], b, n => rfl
  | (m, c) :: a, b, n => by
    simp only [List.cons_append, lkF]
    by_cases h : m = n
    · subst h; simp
    · simp only [beq_false h]; exact lkF_append a b n

theorem app_T (s : St) (d : Option Nat) (o : Out) : lkT (s.app d o).T = putF d o.v (lkT s.T) := by
  funext t
  unfold St.app putF
  cases d with
  | none => simp
  | some d => simp only [lkT_up, Option.some.injEq]

theorem app_H (s : St) (d : Option Nat) (o : Out) : lkF (s.app d o).H = happ o (lkF s.H) := by
  funext n
  simp only [St.app, lkF_append, happ, lkF_upHs]
  cases lkF o.nw n <;> rfl

theorem put_T (s : St) (d : Option Nat) (v : AV) : lkT (s.put d v).T = putF d v (lkT s.T) := by
  funext t
  unfold St.put putF
  cases d with
  | none => simp
  | some d => simp only [lkT_up, Option.some.injEq]

theorem put_H (s : St) (d : Option Nat) (v : AV) : (s.put d v).H = s.H ∧ (s.put d v).nx = s.nx := by
  unfold St.put
  cases d <;> exact ⟨rfl, rfl⟩

theorem happ_val (v : AV) (H : Nat → Option Blk) : happ (Out.val v) H = H := by
  funext n; rfl

/-- The evaluator's states end where the trace ends. -/
structure EndsAt (ps : List Pr) (T : Nat → AV) (H : Nat → Option Blk) (nx : Nat) (s : St) : Prop where
  T : lkT s.T = selT (fun _ => true) 0 ps T
  H : lkF s.H = selH (fun _ => true) 0 ps H
  nx : s.nx = nx + (ps.map (·.2.out.nw.length)).sum

theorem selT_shift (i j : Nat) (ps : List Pr) (T : Nat → AV) : selT (fun _ => true) i ps T = selT (fun _ => true) j ps T := by
  induction ps generalizing i j T with
  | nil => rfl
  | cons p ps ih => simp only [selT, cond_true]; exact ih _ _ _

theorem selH_shift (i j : Nat) (ps : List Pr) (H : Nat → Option Blk) : selH (fun _ => true) i ps H = selH (fun _ => true) j ps H := by
  induction ps generalizing i j H with
  | nil => rfl
  | cons p ps ih => simp only [selH, cond_true]; exact ih _ _ _

section
variable {R : Type} {X : Kit} {ops : Array Oper}

theorem evOp_step {o : Oper} {s : St} {K : Did → St → Option R} {res : R} (h : evOp X o s K = some res) (hgd : GuardIs ops o (lkT s.T) true) :
    ∃ r s', K r s' = some res ∧ Step X ops o (lkT s.T) (lkF s.H) s.nx r ∧ lkT s'.T = putF o.dst r.out.v (lkT s.T) ∧ lkF s'.H = happ r.out (lkF s.H) ∧ s'.nx = s.nx + r.out.nw.length := by
  unfold evOp at h
  split at h
  · rename_i hd
    split at h
    · rename_i tr rd hrun
      obtain ⟨out, h1, h2⟩ := cps_get h
      split at h2
      · rename_i hn
        exact ⟨⟨rd, out⟩, _, h2, ⟨hd, .inl ⟨hgd, tr, by rw [← St.val_eq]; exact hrun, h1, hn⟩⟩, app_T _ _ _, app_H _ _ _, rfl⟩
      · cases h2
    · cases h
  · cases h

theorem noOp_step {o : Oper} {s : St} {K : Did → St → Option R} {res : R} (h : noOp X o s K = some res) (hgd : GuardIs ops o (lkT s.T) false) :
    ∃ r s', K r s' = some res ∧ Step X ops o (lkT s.T) (lkF s.H) s.nx r ∧ lkT s'.T = putF o.dst r.out.v (lkT s.T) ∧ lkF s'.H = happ r.out (lkF s.H) ∧ s'.nx = s.nx + r.out.nw.length := by
  unfold noOp at h
  split at h
  · rename_i hd
    refine ⟨_, _, h, ⟨hd, .inr ⟨hgd, rfl⟩⟩, put_T _ _ _, ?_, ?_⟩
    · rw [(put_H _ _ _).1]; exact (happ_val _ _).symm
    · rw [(put_H _ _ _).2]; rfl
  · cases h

theorem evG_step {b : Bool} {o : Oper} {s : St} {K : Did → St → Option R} {res : R} (h : evG X b o s K = some res) (hgd : GuardIs ops o (lkT s.T) b) :
    ∃ r s', K r s' = some res ∧ Step X ops o (lkT s.T) (lkF s.H) s.nx r ∧ lkT s'.T = putF o.dst r.out.v (lkT s.T) ∧ lkF s'.H = happ r.out (lkF s.H) ∧ s'.nx = s.nx + r.out.nw.length := by
  cases b with
  | true => exact evOp_step h hgd
  | false => exact noOp_step h hgd

theorem lkT_same {T : List (Nat × AV)} {d : Nat} {v : AV} (h : lkT T d = v) : lkT (upT d v T) = lkT T := by
  funext t
  rw [lkT_up]
  split
  · rename_i e; subst e; exact h.symm
  · rfl

theorem evGuard_step {o : Oper} {s : St} {K : Did → St → Option R} {res : R} (h : evGuard X ops o s K = some res) :
    ∃ r s', K r s' = some res ∧ Step X ops o (lkT s.T) (lkF s.H) s.nx r ∧ lkT s'.T = putF o.dst r.out.v (lkT s.T) ∧ lkF s'.H = happ r.out (lkF s.H) ∧ s'.nx = s.nx + r.out.nw.length := by
  unfold evGuard at h
  split at h
  · rename_i hg
    exact evOp_step h (by unfold GuardIs; rw [hg])
  · rename_i g want hg
    split at h
    · rename_i d hd
      split at h
      · rename_i c hc
        have key : ∀ (b : Bool), c = b → GuardIs ops o (lkT (upT d (.s (.bool b)) s.T)) (b == want) := fun b e => by
          subst e
          rw [lkT_same hc]
          unfold GuardIs
          rw [hg]
          exact ⟨d, c, hd, hc, rfl⟩
        cases c with
        | true =>
          have h : evG X want o { s with T := upT d (.s (.bool true)) s.T } K = some res := h
          have hk := key true rfl
          rw [show ((true : Bool) == want) = want by cases want <;> rfl] at hk
          obtain ⟨r, s', h1, h2, h3, h4, h5⟩ := evG_step h hk
          simp only [lkT_same hc] at h2 h3
          exact ⟨r, s', h1, h2, h3, h4, h5⟩
        | false =>
          have h : evG X (!want) o { s with T := upT d (.s (.bool false)) s.T } K = some res := h
          have hk := key false rfl
          rw [show ((false : Bool) == want) = !want by cases want <;> rfl] at hk
          obtain ⟨r, s', h1, h2, h3, h4, h5⟩ := evG_step h hk
          simp only [lkT_same hc] at h2 h3
          exact ⟨r, s', h1, h2, h3, h4, h5⟩
      · cases h
    · cases h

theorem evOps_trace : ∀ {os : List Oper} {tab : List Did} {s : St} {K : List Did → St → Option R} {res : R}, evOps X ops os tab s K = some res →
    ∃ rs s', K (rs.reverse ++ tab) s' = some res ∧ rs.length = os.length ∧ TraceP X ops os rs (lkT s.T) (lkF s.H) s.nx ∧ EndsAt (os.zip rs) (lkT s.T) (lkF s.H) s.nx s'
  | [], tab, s, K, res, h => ⟨[], s, by simpa [evOps] using h, rfl, trivial, ⟨rfl, rfl, by simp⟩⟩
  | o :: os, tab, s, K, res, h => by
    unfold evOps at h
    obtain ⟨r, s1, h1, h2, h3, h4, h5⟩ := evGuard_step h
    obtain ⟨rs, s', h6, h7, h8, h9⟩ := evOps_trace h1
    rw [h3, h4, h5] at h8
    refine ⟨r :: rs, s', by simpa using h6, by simp [h7], ⟨h2, h8⟩, ⟨?_, ?_, ?_⟩⟩
    · rw [h9.T, h3]; simp only [List.zip_cons_cons, selT, cond_true]; exact selT_shift _ _ _ _
    · rw [h9.H, h4]; simp only [List.zip_cons_cons, selH, cond_true]; exact selH_shift _ _ _ _
    · rw [h9.nx, h5]; simp; omega

end

/-! One operation of the trace. -/
theorem newOk_spec : ∀ {nw : List (Nat × Blk)} {nx n : Nat}, newOk nx nw = true → (lkF nw n).isSome = true → nx ≤ n ∧ n < nx + nw.length
  | [], nx, n, _, h => by simp [lkF] at h
  | (m, b) :: r, nx, n, h, hn => by
    unfold newOk at h
    split at h
    · rename_i hb
      have hm := Nat.eq_of_beq_eq_true hb
      by_cases he : m = n
      · subst he; subst hm; simp
      · simp only [lkF, beq_false he] at hn
        have := newOk_spec h hn
        simp only [List.length_cons]
        omega
    · cases h

theorem Step.names {X : Kit} {ops : Array Oper} {o : Oper} {T : Nat → AV} {H : Nat → Option Blk} {nx : Nat} {r : Did} (h : Step X ops o T H nx r) {n : Nat} (hn : (lkF r.out.nw n).isSome = true) : nx ≤ n ∧ n < nx + r.out.nw.length := by
  rcases h.2 with ⟨_, tr, _, _, h⟩ | ⟨_, rfl⟩
  · exact newOk_spec h hn
  · simp [Out.val, lkF] at hn

theorem TraceP_get {X : Kit} {ops : Array Oper} : ∀ {os : List Oper} {rs : List Did} {T : Nat → AV} {H : Nat → Option Blk} {nx i j : Nat} {o : Oper} {r : Did}, TraceP X ops os rs T H nx → (os.zip rs)[j]? = some (o, r) →
    ∃ nxj, Step X ops o (selT (fun k => decide (k < i + j)) i (os.zip rs) T) (selH (fun k => decide (k < i + j)) i (os.zip rs) H) nxj r ∧ nx ≤ nxj ∧
      ∀ (k : Nat) (p : Pr) (n : Nat), (os.zip rs)[k]? = some p → (lkF p.2.out.nw n).isSome = true → nx ≤ n ∧ (k < j → n < nxj) ∧ (j < k → nxj + r.out.nw.length ≤ n)
  | [], _, _, _, _, _, j, o, r, _, h => by simp at h
  | o1 :: os, [], _, _, _, _, j, o, r, ht, h => by simp at h
  | o1 :: os, r1 :: rs, T, H, nx, i, 0, o, r, ⟨hs, ht⟩, h => by
    simp only [List.zip_cons_cons, List.getElem?_cons_zero, Option.some.injEq, Prod.mk.injEq] at h
    obtain ⟨rfl, rfl⟩ := h
    refine ⟨nx, ?_, Nat.le_refl _, fun k p n hk hn => ?_⟩
    · have a1 : selT (fun k => decide (k < i + 0)) i ((o1 :: os).zip (r1 :: rs)) T = T := by
        funext t
        rw [selT_get]
        exact selV_none fun k u _ => by simp
      have a2 : selH (fun k => decide (k < i + 0)) i ((o1 :: os).zip (r1 :: rs)) H = H := by
        funext n
        rw [selH_get]
        exact selV_none fun k u _ => by simp
      rw [a1, a2]
      exact hs
    · cases k with
      | zero =>
        simp only [List.zip_cons_cons, List.getElem?_cons_zero, Option.some.injEq] at hk
        subst hk
        exact ⟨(hs.names hn).1, fun h => by omega, fun h => by omega⟩
      | succ k =>
        have hk : (os.zip rs)[k]? = some p := by simpa using hk
        obtain ⟨nxk, hk1, hk2, _⟩ := TraceP_get (i := 0) (o := p.1) (r := p.2) ht hk
        have := (hk1.names hn).1
        exact ⟨by omega, fun h => by omega, fun _ => by omega⟩
  | o1 :: os, r1 :: rs, T, H, nx, i, j + 1, o, r, ⟨hs, ht⟩, h => by
    have h : (os.zip rs)[j]? = some (o, r) := by simpa using h
    obtain ⟨nxj, h1, h2, h3⟩ := TraceP_get (i := i + 1) ht h
    refine ⟨nxj, ?_, by omega, fun k p n hk hn => ?_⟩
    · rw [show i + 1 + j = i + (j + 1) by omega] at h1
      have hi : decide (i < i + (j + 1)) = true := by simp
      simp only [List.zip_cons_cons, selT, selH, hi, cond_true]
      exact h1
    · cases k with
      | zero =>
        simp only [List.zip_cons_cons, List.getElem?_cons_zero, Option.some.injEq] at hk
        subst hk
        have := hs.names hn
        exact ⟨this.1, fun _ => by omega, fun h => by omega⟩
      | succ k =>
        have := h3 k p n (by simpa using hk) hn
        exact ⟨by omega, fun h => this.2.1 (by omega), fun h => this.2.2 (by omega)⟩

end Go.Proofs.Ytgebgjhjegadpaa
