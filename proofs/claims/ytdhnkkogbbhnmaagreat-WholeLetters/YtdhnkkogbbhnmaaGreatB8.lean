/-
  Part 8 of what the last text stands on: Letters between two: the letters of one turn.
-/
import Derived.Test.YtdhnkkogbbhnmaaGreatB7

set_option linter.unusedSimpArgs false
set_option linter.unusedVariables false

namespace Go.Proofs.YtdhnkkogbbhnmaaGreat
open Go

def envLG (o : OpsLt) : List (Nat × FSem) := [(15, Lse o), (16, Lon o), (4, Len o), (7, Lde o)]
theorem envLG_ok : EnvOk ⟨Tryz.prog, envLG opsLt, []⟩ := .cons lkSe (.cons lkOn (.cons lkEn (.cons lkDe .nil)))

def frF (i j : Nat) : List Nat := ((zero32.set 0 15).set 1 (i % 256)).set 2 j
def puO (o : OpsLt) (s : St9) : List Nat := o.ml s.ow nine
def ltr (o : OpsLt) (A : St9) (i j : Nat) : List Nat := o.le (puO o A) (slB o A [i % 256, j]) A.bf A.sn

structure StepOk (o : OpsLt) (i j : Nat) (A B : St9) : Prop where
  so : A.so = true
  sl : slOk o A = true
  op : opOk o B (puO o A) (slB o A [i % 256, j]) (frF i j) A.bf A.sn = true
  x0 : (opB o B (puO o A) (slB o A [i % 256, j])).getD 0 0 = i % 256
  x1 : (opB o B (puO o A) (slB o A [i % 256, j])).getD 1 0 = j
  bf : A.bf < 4294967296
  sn : A.sn < 4294967296
  ln : (slB o A [i % 256, j]).length = 18

def inF (o : OpsLt) (i : Nat) : Nat → St9 → St9 → St9 × St9
  | 0, A, B => (A, B)
  | j + 1, A, B => (seS o (inF o i j A B).1, kyS o (inF o i j A B).2 (puO o (inF o i j A B).1) (frF i j))

def turnOk (o : OpsLt) (i p b : Nat) (A B : St9) : Prop :=
  (p = 0 ∧ ∀ j, j ≤ b % 3 → StepOk o i j (inF o i j A B).1 (inF o i j A B).2) ∨ (p = 1 ∧ ∀ j, j ≤ b % 3 → StepOk o i j (inF o i j B A).1 (inF o i j B A).2)
def turnF (o : OpsLt) (i p b : Nat) (A B : St9) : St9 × St9 := cond (decide (p = 0)) (inF o i (b % 3 + 1) A B) ((inF o i (b % 3 + 1) B A).2, (inF o i (b % 3 + 1) B A).1)

def stD (rt ow th bd sc : List Nat) (sn : Nat) (so : Bool) (gc : List Nat) (gn : Nat) (go : Bool) (bf : Nat) (rt' ow' th' bd' sc' : List Nat) (sn' : Nat) (so' : Bool) (gc' : List Nat) (gn' : Nat) (go' : Bool) (bf' : Nat) : Blk :=
  [.ints .u8 32 rt, .ints .u8 32 ow, .ints .u8 32 th, .ints .u8 32 bd, .ints .u8 32 sc, .one (.nat .u32 sn), .one (.bool so), .ints .u8 32 gc, .one (.nat .u32 gn), .one (.bool go), .one (.nat .u32 bf), .one .nil,
   .ints .u8 32 rt', .ints .u8 32 ow', .ints .u8 32 th', .ints .u8 32 bd', .ints .u8 32 sc', .one (.nat .u32 sn'), .one (.bool so'), .ints .u8 32 gc', .one (.nat .u32 gn'), .one (.bool go'), .one (.nat .u32 bf'), .one .nil]

noncomputable def tnB (o : OpsLt) (i p b : Nat) (A B : St9) : Bool := @decide (turnOk o i p b A B) (Classical.propDecidable _)
noncomputable def Stn (o : OpsLt) : LSem := ⟨[19, 20, 21, 22, 23], [], fun args hin => match args, hin with
  | [.s (.ptr 0 0), .s (.nat .i64 i), .s (.nat .u8 b), .s (.nat .i64 p), .s (.nat .u8 0)], [[.ints .u8 32 rt, .ints .u8 32 ow, .ints .u8 32 th, .ints .u8 32 bd, .ints .u8 32 sc, .one (.nat .u32 sn), .one (.bool so), .ints .u8 32 gc, .one (.nat .u32 gn), .one (.bool go), .one (.nat .u32 bf), .one .nil, .ints .u8 32 rt', .ints .u8 32 ow', .ints .u8 32 th', .ints .u8 32 bd', .ints .u8 32 sc', .one (.nat .u32 sn'), .one (.bool so'), .ints .u8 32 gc', .one (.nat .u32 gn'), .one (.bool go'), .one (.nat .u32 bf'), .one .nil]] =>
    some (.need (tnB o i p b ⟨rt, ow, th, bd, sc, sn, so, gc, gn, go, bf⟩ ⟨rt', ow', th', bd', sc', sn', so', gc', gn', go', bf'⟩)
      (.leaf (.normal, [], [some (stB (turnF o i p b ⟨rt, ow, th, bd, sc, sn, so, gc, gn, go, bf⟩ ⟨rt', ow', th', bd', sc', sn', so', gc', gn', go', bf'⟩).1 ++ stB (turnF o i p b ⟨rt, ow, th, bd, sc, sn, so, gc, gn, go, bf⟩ ⟨rt', ow', th', bd', sc', sn', so', gc', gn', go', bf'⟩).2)])))
  | _, _ => none⟩

def inArgs (i b p j : Nat) : List AV := [.s (.ptr 0 0), .s (.nat .i64 i), .s (.nat .u8 b), .s (.nat .i64 p), .s (.nat .u8 j)]
def dk (o : OpsLt) (l : List Nat) : List Nat := o.pc 1 32 l
def dd (o : OpsLt) (l : List Nat) : List Nat := o.pc 45 18 l
def inNd (o : OpsLt) (A B : St9) (i j : Nat) : List Bool := [A.so, slOk o A, decide ((ltr o A i j).getD 0 0 = 3), decide (o.a4 (ltr o A i j) 41 = 18),
  opOk o B (dk o (ltr o A i j)) (dd o (ltr o A i j)) (frF i j) (o.a4 (ltr o A i j) 33) (o.a4 (ltr o A i j) 37)]
def inX (o : OpsLt) (A B : St9) (i j : Nat) : List Nat := opB o B (dk o (ltr o A i j)) (dd o (ltr o A i j))
set_option maxRecDepth 100000 in
theorem rlIn0 (o : OpsLt) (A B : St9) (i b j : Nat) : runR Tryz.prog (envLG o) [] .nat 20 [] Tryz.f3 2 (Stn o) 1 (inArgs i b 0 j) [some (stB A ++ stB B)] =
  cond (decide (j ≤ b % 3)) (nd (inNd o A B i j) (cond (!decide ((inX o A B i j).getD 0 0 = i % 256)) (some (.ret, [], [some (stB (seS o A) ++ stB B)]))
    (cond (!decide ((inX o A B i j).getD 1 0 = j)) (some (.ret, [], [some (stB (seS o A) ++ stB B)]))
     (some (.normal, inArgs i b 0 ((j + 1) % 256), [some (stB (seS o A) ++ stB (kyS o B (dk o (ltr o A i j)) (frF i j)))])))))
   (some (.exit 2, [], [some (stB A ++ stB B)])) := by kernel_rfl
set_option maxRecDepth 100000 in
theorem rlIn1 (o : OpsLt) (A B : St9) (i b j : Nat) : runR Tryz.prog (envLG o) [] .nat 20 [] Tryz.f3 2 (Stn o) 1 (inArgs i b 1 j) [some (stB B ++ stB A)] =
  cond (decide (j ≤ b % 3)) (nd (inNd o A B i j) (cond (!decide ((inX o A B i j).getD 0 0 = i % 256)) (some (.ret, [], [some (stB B ++ stB (seS o A))]))
    (cond (!decide ((inX o A B i j).getD 1 0 = j)) (some (.ret, [], [some (stB B ++ stB (seS o A))]))
     (some (.normal, inArgs i b 1 ((j + 1) % 256), [some (stB (kyS o B (dk o (ltr o A i j)) (frF i j)) ++ stB (seS o A))])))))
   (some (.exit 2, [], [some (stB B ++ stB A)])) := by kernel_rfl

theorem ltr_back {A B : St9} {i j : Nat} (h : StepOk opsLt i j A B) : (ltr opsLt A i j).getD 0 0 = 3 ∧ opsLt.a4 (ltr opsLt A i j) 41 = 18 ∧ dk opsLt (ltr opsLt A i j) = puO opsLt A ∧ opsLt.a4 (ltr opsLt A i j) 33 = A.bf ∧ opsLt.a4 (ltr opsLt A i j) 37 = A.sn ∧ dd opsLt (ltr opsLt A i j) = slB opsLt A [i % 256, j] := by
  have h1 : (puO opsLt A).length = 32 := mlO_len _ _
  have h2 := h.ln
  unfold ltr dk dd
  rw [opsLt_le, opsLt_pc, opsLt_a4]
  generalize puO opsLt A = k at *
  generalize slB opsLt A [i % 256, j] = d at *
  exact let_back h1 h2 h.bf h.sn

theorem inNd_ok {A B : St9} {i j : Nat} (h : StepOk opsLt i j A B) : ∀ x ∈ inNd opsLt A B i j, x = true := by
  obtain ⟨h1, h2, h3, h4, h5, h6⟩ := ltr_back h
  unfold inNd
  rw [h1, h2, h3, h4, h5, h6]
  simp only [List.mem_cons, List.not_mem_nil, or_false, forall_eq_or_imp, forall_eq]
  exact ⟨h.so, h.sl, rfl, rfl, h.op⟩

theorem step0 {A B : St9} {i b j : Nat} (h : StepOk opsLt i j A B) (hj : j ≤ b % 3) : runR Tryz.prog (envLG opsLt) [] .nat 20 [] Tryz.f3 2 (Stn opsLt) 1 (inArgs i b 0 j) [some (stB A ++ stB B)] =
    some (.normal, inArgs i b 0 (j + 1), [some (stB (seS opsLt A) ++ stB (kyS opsLt B (puO opsLt A) (frF i j)))]) := by
  rw [rlIn0]
  obtain ⟨h1, h2, h3, h4, h5, h6⟩ := ltr_back h
  refine cond_t (decide_eq_true hj) (nd_of (inNd_ok h) (cond_f ?_ (cond_f ?_ ?_)))
  · unfold inX
    rw [h3, h6, h.x0]
    simp
  · unfold inX
    rw [h3, h6, h.x1]
    simp
  · rw [h3, Nat.mod_eq_of_lt (show j + 1 < 256 by omega)]
theorem step1 {A B : St9} {i b j : Nat} (h : StepOk opsLt i j A B) (hj : j ≤ b % 3) : runR Tryz.prog (envLG opsLt) [] .nat 20 [] Tryz.f3 2 (Stn opsLt) 1 (inArgs i b 1 j) [some (stB B ++ stB A)] =
    some (.normal, inArgs i b 1 (j + 1), [some (stB (kyS opsLt B (puO opsLt A) (frF i j)) ++ stB (seS opsLt A))]) := by
  rw [rlIn1]
  obtain ⟨h1, h2, h3, h4, h5, h6⟩ := ltr_back h
  refine cond_t (decide_eq_true hj) (nd_of (inNd_ok h) (cond_f ?_ (cond_f ?_ ?_)))
  · unfold inX
    rw [h3, h6, h.x0]
    simp
  · unfold inX
    rw [h3, h6, h.x1]
    simp
  · rw [h3, Nat.mod_eq_of_lt (show j + 1 < 256 by omega)]

theorem of_dec {p : Prop} {i : Decidable p} (h : @decide p i = true) : p := @of_decide_eq_true p i h
theorem lokTn : LOk Tryz.prog Tryz.f3.ntmps (.block 2 (.loop (lb 2 Tryz.f3))) (Stn opsLt) := by
  refine lokR (fs := envLG opsLt) (xs := []) (m := .nat) (fuel := 20) (sums := []) envLG_ok mixedF (loopsOk_none rfl _) ?_
  intro args hin t e vs hout h hg
  unfold Stn at h
  simp only at h
  split at h
  rotate_left
  · cases h
  rename_i i b p rt ow th bd sc sn so gc gn go bf rt' ow' th' bd' sc' sn' so' gc' gn' go' bf'
  simp only [Option.some.injEq] at h
  subst h
  obtain ⟨hc, hgt⟩ := need1 hg
  cases hgt
  have hc : turnOk opsLt i p b _ _ := of_dec hc
  generalize hA : (⟨rt, ow, th, bd, sc, sn, so, gc, gn, go, bf⟩ : St9) = A at hc
  generalize hB : (⟨rt', ow', th', bd', sc', sn', so', gc', gn', go', bf'⟩ : St9) = B at hc
  rcases hc with ⟨rfl, hs⟩ | ⟨rfl, hs⟩
  · refine ⟨b % 3 + 1, fun j => (inArgs i b 0 j, [some (stB (inF opsLt i j A B).1 ++ stB (inF opsLt i j A B).2)]), .exit 2, ?_, fun j hj => ?_, ?_, rfl⟩
    · subst hA hB; rfl
    · exact step0 (hs j (by omega)) (by omega)
    · refine (rlIn0 opsLt _ _ i b (b % 3 + 1)).trans (cond_f (decide_eq_false (by omega)) ?_)
      subst hA hB; rfl
  · refine ⟨b % 3 + 1, fun j => (inArgs i b 1 j, [some (stB (inF opsLt i j B A).2 ++ stB (inF opsLt i j B A).1)]), .exit 2, ?_, fun j hj => ?_, ?_, rfl⟩
    · subst hA hB; rfl
    · exact step1 (hs j (by omega)) (by omega)
    · refine (rlIn1 opsLt _ _ i b (b % 3 + 1)).trans (cond_f (decide_eq_false (by omega)) ?_)
      subst hA hB; rfl

end Go.Proofs.YtdhnkkogbbhnmaaGreat

namespace Go.Proofs.YtdhnkkogbbhnmaaGreat
open Go

def sidF (o : OpsLt) (bs : List Nat) (A B : St9) : Nat → St9 × St9
  | 0 => (A, B)
  | i + 1 => turnF o i (i % 2) (bs.getD i 0) (sidF o bs A B i).1 (sidF o bs A B i).2
def allOk (o : OpsLt) (bs : List Nat) (A B : St9) : Prop := ∀ i, i < bs.length → turnOk o i (i % 2) (bs.getD i 0) (sidF o bs A B i).1 (sidF o bs A B i).2

def ouArgs (bs : List Nat) (n i : Nat) : List AV := [.s (.ptr 0 0), .s (.xsl (.ints .u8 bs)), .s (.nat .i64 n), .s (.nat .i64 i)]
noncomputable def alB (o : OpsLt) (bs : List Nat) (A B : St9) : Bool := @decide (allOk o bs A B) (Classical.propDecidable _)
noncomputable def Sou (o : OpsLt) : LSem := ⟨[19, 133, 134, 135], [], fun args hin => match args, hin with
  | [.s (.ptr 0 0), .s (.xsl (.ints .u8 bs)), .s (.nat .i64 n), .s (.nat .i64 0)], [[.ints .u8 32 rt, .ints .u8 32 ow, .ints .u8 32 th, .ints .u8 32 bd, .ints .u8 32 sc, .one (.nat .u32 sn), .one (.bool so), .ints .u8 32 gc, .one (.nat .u32 gn), .one (.bool go), .one (.nat .u32 bf), .one .nil, .ints .u8 32 rt', .ints .u8 32 ow', .ints .u8 32 th', .ints .u8 32 bd', .ints .u8 32 sc', .one (.nat .u32 sn'), .one (.bool so'), .ints .u8 32 gc', .one (.nat .u32 gn'), .one (.bool go'), .one (.nat .u32 bf'), .one .nil]] =>
    some (Tr.needs [decide (n = bs.length), decide (n < 9223372036854775808), alB o bs ⟨rt, ow, th, bd, sc, sn, so, gc, gn, go, bf⟩ ⟨rt', ow', th', bd', sc', sn', so', gc', gn', go', bf'⟩]
      (.leaf (.normal, [], [some (stB (sidF o bs ⟨rt, ow, th, bd, sc, sn, so, gc, gn, go, bf⟩ ⟨rt', ow', th', bd', sc', sn', so', gc', gn', go', bf'⟩ n).1 ++ stB (sidF o bs ⟨rt, ow, th, bd, sc, sn, so, gc, gn, go, bf⟩ ⟨rt', ow', th', bd', sc', sn', so', gc', gn', go', bf'⟩ n).2)])))
  | _, _ => none⟩

theorem loopsTn : LoopsOk Tryz.prog ⟨Tryz.f3.ntmps, 20, [(2, Stn opsLt)]⟩ (lb 0 Tryz.f3) := by
  refine loopsOk_of ?_
  have e : loopsIn [(2, Stn opsLt)] (lb 0 Tryz.f3) = [(2, .loop (lb 2 Tryz.f3), Stn opsLt)] := by kernel_rfl
  simp only [e]
  intro x hx
  simp only [List.mem_cons, List.not_mem_nil, or_false] at hx
  rcases hx with rfl
  · exact lokTn

set_option maxRecDepth 100000 in
theorem rlOu (o : OpsLt) (A B : St9) (bs : List Nat) (n i : Nat) : runR Tryz.prog [] [] .nat 20 [(2, Stn o)] Tryz.f3 0 (Sou o) 1 (ouArgs bs n i) [some (stB A ++ stB B)] =
  cond (decide (i < n)) (nd [decide (i < bs.length), decide (i < bs.length), tnB o i (i % 2) (bs.getD i 0) A B, decide (i + 1 < 9223372036854775808)]
    (some (.normal, ouArgs bs n (i + 1), [some (stB (turnF o i (i % 2) (bs.getD i 0) A B).1 ++ stB (turnF o i (i % 2) (bs.getD i 0) A B).2)])))
   (some (.exit 0, [], [some (stB A ++ stB B)])) := by kernel_rfl

theorem lokOu : LOk Tryz.prog Tryz.f3.ntmps (.block 0 (.loop (lb 0 Tryz.f3))) (Sou opsLt) := by
  refine lokR (fs := []) (xs := []) (m := .nat) (fuel := 20) (sums := [(2, Stn opsLt)]) .nil mixedF loopsTn ?_
  intro args hin t e vs hout h hg
  unfold Sou at h
  simp only at h
  split at h
  rotate_left
  · cases h
  rename_i bs n rt ow th bd sc sn so gc gn go bf rt' ow' th' bd' sc' sn' so' gc' gn' go' bf'
  simp only [Option.some.injEq] at h
  subst h
  obtain ⟨hc, hgt⟩ := Tr.needs_get hg
  cases hgt
  simp only [List.mem_cons, List.not_mem_nil, or_false, forall_eq_or_imp, forall_eq] at hc
  obtain ⟨h1, h2, h3⟩ := hc
  have h1 := of_dec h1
  have h2 := of_dec h2
  have h3 : allOk opsLt bs _ _ := of_dec h3
  subst h1
  generalize hA : (⟨rt, ow, th, bd, sc, sn, so, gc, gn, go, bf⟩ : St9) = A at h3
  generalize hB : (⟨rt', ow', th', bd', sc', sn', so', gc', gn', go', bf'⟩ : St9) = B at h3
  refine ⟨bs.length, fun i => (ouArgs bs bs.length i, [some (stB (sidF opsLt bs A B i).1 ++ stB (sidF opsLt bs A B i).2)]), .exit 0, ?_, fun i hi => ?_, ?_, rfl⟩
  · subst hA hB; rfl
  · refine (rlOu opsLt _ _ bs bs.length i).trans (cond_t (decide_eq_true hi) (nd_of ?_ rfl))
    simp only [List.mem_cons, List.not_mem_nil, or_false, forall_eq_or_imp, forall_eq]
    exact ⟨decide_eq_true hi, decide_eq_true hi, @decide_eq_true _ (Classical.propDecidable _) (h3 i hi), decide_eq_true (by omega)⟩
  · refine (rlOu opsLt _ _ bs bs.length bs.length).trans (cond_f (decide_eq_false (Nat.lt_irrefl _)) ?_)
    subst hA hB; rfl

theorem loopsOu : LoopsOk Tryz.prog ⟨Tryz.f3.ntmps, 20, [(0, Sou opsLt)]⟩ (bodyOf Tryz.f3) := by
  refine loopsOk_of ?_
  have e : loopsIn [(0, Sou opsLt)] (bodyOf Tryz.f3) = [(0, .loop (lb 0 Tryz.f3), Sou opsLt)] := by kernel_rfl
  simp only [e]
  intro x hx
  simp only [List.mem_cons, List.not_mem_nil, or_false] at hx
  rcases hx with rfl
  · exact lokOu

def envLH (o : OpsLt) : List (Nat × FSem) := [(4, Len o), (5, Lof o), (6, Lfr), (7, Lde o), (8, Lrd), (9, Lbg o), (10, Lac o), (11, Lpa o), (12, Lml o), (13, Lbe o), (14, Lap)]
theorem envLH_ok : EnvOk ⟨Tryz.prog, envLH opsLt, []⟩ := .cons lkEn (.cons lkOf (.cons lkFr (.cons lkDe (.cons lkRd (.cons lkBg (.cons lkAc (.cons lkPa (.cons lkMl (.cons lkBe (.cons lkAp .nil))))))))))

end Go.Proofs.YtdhnkkogbbhnmaaGreat

namespace Go.Proofs.YtdhnkkogbbhnmaaGreat
open Go Fq

def kc (n : Nat) : List Nat := zero32.set 0 n
def kyC : Nat → List Nat
  | 0 => kc 11
  | 1 => kc 14
  | i + 2 => frF i 0
def VV (j : Nat) : Nat := 8 + 2 ^ 254 + 256 * (j - 2)
def wl : List Nat := [54815864700279561125610391355931320566748822376190344121911385527384361806914, 54815864700279561125610391355931320566748822376190344121911385527384361806914, 54815864700279561125610391355931320566748822376190344121911385527384361806914, 37151277731372684465936929691841870254178070668703000778365664540573449514244, 33288839319653334145922192177076561010967411236781753971371279168606450388908, 16253149243266260864997544749131294281575338706685569071618412977539677566390, 12756031626579376676210420368176873624260990720955611890888292055681347249863, 56174215170422050745240087148408684210427907630868103346942955235092498372721, 17876004399556698125036179014077631469171481228697949801522983653879806977637, 13216682012438617141160905712947144406579617868406378236300618776350865309397, 9467325356319321656531884960411897235280501739801986659755475747618306716016, 31530995569111700822421187306934881308120121688914624570236421736049284625288]
def ww (j : Nat) : Nat := wl.getD j 0

theorem kk_g32 : ∀ j, j < 12 → g32 (kyC j) = true := by decide +kernel
theorem kk_nK : ∀ j, j < 12 → nK (kyC j) = VV j := by decide +kernel
theorem VV_lt : ∀ j, j < 12 → VV j < P2 := by decide +kernel
theorem ww_lt : ∀ j, j < 12 → ww j < P255 := by decide +kernel
theorem num_pub : ∀ j, j < 12 → (stN 9 (VV j) 255).1.2 % P255 ≠ 0 ∧ (stN 9 (VV j) 255).1.1 % P255 = ww j * (stN 9 (VV j) 255).1.2 % P255 := by decide +kernel
theorem num_sec : ∀ j, j < 11 → (stN (ww j) (VV (j + 1)) 255).1.2 % P255 ≠ 0 ∧ (stN (ww j) (VV (j + 1)) 255).1.1 % P255 ≠ 0 := by decide +kernel
theorem ww_ne : ∀ j, j < 8 → ww (j + 3) ≠ ww (j + 1) := by decide +kernel

theorem nine_g32 : g32 nine = true := by decide +kernel
theorem uV_z : uV zero32 = 0 := by decide +kernel
theorem pub_g32 {j : Nat} (hj : j < 12) : g32 (opsLt.ml (kyC j) nine) = true := by
  rw [opsLt_ml]
  exact ml_g32 (kk_g32 j hj) nine_g32
theorem pub_uV {j : Nat} (hj : j < 12) : c (uV (opsLt.ml (kyC j) nine)) = c (ww j) := by
  rw [opsLt_ml]
  obtain ⟨G, hG⟩ := lad_ex (c (uV nine))
  rw [ml_val (kk_g32 j hj) nine_g32 hG, kk_nK j hj, uV_dB]
  rw [u9] at hG
  have h := stN_val (u := 9) (by decide) (VV_lt j hj) hG
  rw [G_is (num_pub j hj).1 (num_pub j hj).2] at h
  exact h.symm
theorem pub_ne {j : Nat} (hj : j < 8) : opsLt.ml (kyC (j + 3)) nine ≠ opsLt.ml (kyC (j + 1)) nine := by
  intro h
  have h1 := pub_uV (j := j + 3) (by omega)
  have h2 := pub_uV (j := j + 1) (by omega)
  rw [h, h2] at h1
  have h3 := c_eq.1 h1
  rw [Nat.mod_eq_of_lt (ww_lt _ (by omega)), Nat.mod_eq_of_lt (ww_lt _ (by omega))] at h3
  exact ww_ne j hj h3.symm
theorem sec_nz {j : Nat} (hj : j < 11) : opsLt.ml (kyC (j + 1)) (opsLt.ml (kyC j) nine) ≠ zero32 := by
  intro h
  have hu := pub_uV (j := j) (by omega)
  have hg := pub_g32 (j := j) (by omega)
  generalize opsLt.ml (kyC j) nine = u at *
  rw [opsLt_ml] at h
  obtain ⟨G, hG⟩ := lad_ex (c (uV u))
  rw [ml_val (kk_g32 _ (by omega)) hg hG, kk_nK _ (by omega)] at h
  rw [hu] at hG
  have h2 := stN_val (ww_lt j (by omega)) (VV_lt (j + 1) (by omega)) hG
  have h3 := G_ne (num_sec j hj).1 (num_sec j hj).2
  rw [h2] at h3
  have h4 := uV_dB (G (VV (j + 1)))
  rw [h, uV_z] at h4
  exact h3 (h4.symm.trans (nat_d 0))
theorem sec_comm {i j : Nat} (hi : i < 12) (hj : j < 12) : opsLt.ml (kyC i) (opsLt.ml (kyC j) nine) = opsLt.ml (kyC j) (opsLt.ml (kyC i) nine) := by
  rw [opsLt_ml]
  exact ml_comm (kk_g32 i hi) (kk_g32 j hj) nine_g32

end Go.Proofs.YtdhnkkogbbhnmaaGreat

namespace Go.Proofs.YtdhnkkogbbhnmaaGreat
open Go

theorem l40_k1 (a b c : List Nat) : l40 (opsLt.k1 a b c) = true := by
  rw [opsLt_k1]
  unfold l40 k1L
  exact decide_eq_true (Nat.le_trans (List.length_take_le _ _) (by decide))
theorem l40_k2 (a b c : List Nat) : l40 (opsLt.k2 a b c) = true := by
  rw [opsLt_k2]
  unfold l40 k2L
  exact decide_eq_true (Nat.le_trans (List.length_take_le _ _) (by decide))
theorem l40_mc (a b : List Nat) : l40 (opsLt.mc a b) = true := by
  rw [opsLt_mc]
  exact l40_of (mc_len _ _) (by decide)

theorem hd_ok {s : St9} {k : List Nat} {b n : Nat} (h : s.bd.length = 32) (hk : k.length = 32) : opsLt.okL (hdP opsLt s k b n) = true ∧ opsLt.lon (hdP opsLt s k b n) = false := by
  have hh : (hedB k b n).length = 45 := by
    unfold hedB
    simp only [List.length_append, hk]
    rfl
  unfold hdP
  rw [opsLt_okL, opsLt_lon, opsLt_he]
  generalize hedB k b n = x at *
  generalize s.bd = y at *
  constructor
  · unfold okLens
    simp [h, hh]
  · unfold lonB
    refine decide_eq_false ?_
    show ¬ 1048576 < 0 + y.length + x.length
    omega

theorem seal_len (A : St9) (x y : Nat) : (slB opsLt A [x, y]).length = 18 := by
  unfold slB
  rw [opsLt_sl, slT_len]
  rfl

theorem stepOk_mk {i j : Nat} {A B : St9} (so : A.so = true) (sn : A.sn ≤ 3) (bf : A.bf ≤ 3) (bd : A.bd = B.bd) (bl : A.bd.length = 32) (lsc : l40 A.sc = true)
    (ky : kyOk opsLt B (puO opsLt A) (frF i j) A.bf A.sn = true) (hk : kyK opsLt B (puO opsLt A) = opsLt.mc A.sc [1]) : StepOk opsLt i j A B := by
  have hp : (puO opsLt A).length = 32 := mlO_len _ _
  have hA := hd_ok (s := A) (b := A.bf) (n := A.sn) bl hp
  have hB := hd_ok (s := B) (b := A.bf) (n := A.sn) (by rw [← bd]; exact bl) hp
  have e : hdP opsLt B (puO opsLt A) A.bf A.sn = hdP opsLt A (puO opsLt A) A.bf A.sn := by unfold hdP; rw [bd]
  have hx : opB opsLt B (puO opsLt A) (slB opsLt A [i % 256, j]) = [i % 256, j] := by
    unfold opB slB
    rw [hk, opsLt_sl, opsLt_opn]
    unfold opnT
    rw [opT_slT, mx_mx]
  have ht : opTe opsLt B (puO opsLt A) (slB opsLt A [i % 256, j]) A.bf A.sn = true := by
    unfold opTe slB
    rw [hk, e, opsLt_sl, opsLt_tel]
    unfold telT
    rw [opT_slT, lsT_slT]
    exact decide_eq_true rfl
  refine ⟨so, ?_, ?_, ?_, ?_, by omega, by omega, seal_len _ _ _⟩
  · unfold slOk
    rw [lsc, l40_mc, show opsLt.okL (hdP opsLt A (opsLt.ml A.ow nine) A.bf A.sn) = true from hA.1, show opsLt.lon (hdP opsLt A (opsLt.ml A.ow nine) A.bf A.sn) = false from hA.2, decide_eq_true sn]
    rfl
  · unfold opOk
    rw [ky, hk, l40_mc, seal_len, hB.1, hB.2, ht]
    rfl
  · rw [hx]; rfl
  · rw [hx]; rfl

structure InvT (i : Nat) (A B : St9) : Prop where
  aow : A.ow = kyC (i + 1)
  bow : B.ow = kyC i
  ath : A.th = opsLt.ml (kyC i) nine
  so : A.so = true
  sn : A.sn = 0
  bd : A.bd = B.bd
  bl : A.bd.length = 32
  rt : A.rt = opsLt.k1 B.rt (opsLt.ml A.ow A.th) rtS
  sc : A.sc = opsLt.k2 B.rt (opsLt.ml A.ow A.th) rtS
  bf : A.bf ≤ 3
  bsn : B.sn ≤ 3
  lrt : l40 B.rt = true
  bgo : B.go = true → 2 ≤ i ∧ B.gn = A.bf ∧ B.th = opsLt.ml (kyC (i - 1)) nine
  ago : A.go = true → 1 ≤ i ∧ A.gn = B.sn

structure InvJ (i j n : Nat) (A B : St9) : Prop where
  aow : A.ow = kyC (i + 1)
  so : A.so = true
  sn : A.sn = j
  bd : A.bd = B.bd
  bl : A.bd.length = 32
  bf : A.bf ≤ 3
  ath : A.th = opsLt.ml (kyC i) nine
  bow : B.ow = kyC (i + 2)
  bth : B.th = opsLt.ml (kyC (i + 1)) nine
  bgo : B.go = true
  bgn : B.gn = j
  bgc : B.gc = A.sc
  brt : B.rt = opsLt.k1 A.rt (opsLt.ml (kyC (i + 2)) (opsLt.ml (kyC (i + 1)) nine)) rtS
  bsc : B.sc = opsLt.k2 A.rt (opsLt.ml (kyC (i + 2)) (opsLt.ml (kyC (i + 1)) nine)) rtS
  bsn : B.sn = 0
  bso : B.so = true
  bbf : B.bf = n
  n3 : n ≤ 3
  lsc : l40 A.sc = true
  lrt : l40 A.rt = true
  ago : A.go = true → 1 ≤ i ∧ A.gn = n

theorem inv_turn {i j n : Nat} {A B : St9} (h : InvJ i j n A B) (hj : j ≤ 3) : InvT (i + 1) B A where
  aow := h.bow
  bow := h.aow
  ath := h.bth
  so := h.bso
  sn := h.bsn
  bd := h.bd.symm
  bl := by rw [← h.bd]; exact h.bl
  rt := by rw [h.brt, h.bow, h.bth]
  sc := by rw [h.bsc, h.bow, h.bth]
  bf := by rw [h.bbf]; exact h.n3
  bsn := by rw [h.sn]; exact hj
  lrt := h.lrt
  bgo := fun hg => by
    obtain ⟨h1, h2⟩ := h.ago hg
    exact ⟨by omega, by rw [h2, h.bbf], h.ath⟩
  ago := fun _ => ⟨by omega, by rw [h.bgn, h.sn]⟩

theorem inv_same {i j n : Nat} {A B : St9} (h : InvJ i j n A B) (hj : j ≤ 3) : StepOk opsLt i j A B ∧ InvJ i (j + 1) n (seS opsLt A) (kyS opsLt B (puO opsLt A) (frF i j)) := by
  have hm : kySm B (puO opsLt A) = true := by
    unfold kySm puO
    rw [h.bgo, h.bth, h.aow, Bool.true_and]
    generalize opsLt.ml (kyC (i + 1)) nine = u
    exact decide_eq_true (Eq.refl u)
  refine ⟨stepOk_mk h.so (by rw [h.sn]; exact hj) h.bf h.bd h.bl h.lsc ?_ ?_, ?_⟩
  · unfold kyOk okSame
    rw [hm, cond_true, h.sn, h.bgn, h.bgc, h.lsc, decide_eq_true hj, decide_eq_true rfl]
    rfl
  · unfold kyK
    rw [hm, cond_true, h.bgc]
  · unfold kyS
    rw [hm, cond_true]
    exact { aow := h.aow, so := rfl, sn := by show A.sn + 1 = j + 1; rw [h.sn], bd := h.bd, bl := h.bl, bf := h.bf, ath := h.ath, bow := h.bow, bth := h.bth, bgo := rfl, bgn := by show B.gn + 1 = j + 1; rw [h.bgn]
            bgc := by show opsLt.mc B.gc [2] = opsLt.mc A.sc [2]; rw [h.bgc]
            brt := h.brt, bsc := h.bsc, bsn := h.bsn, bso := h.bso, bbf := h.bbf, n3 := h.n3, lsc := l40_mc _ _, lrt := h.lrt, ago := h.ago }

theorem inv_new {i : Nat} {A B : St9} (h : InvT i A B) (hi : i < 10) : StepOk opsLt i 0 A B ∧ InvJ i 1 B.sn (seS opsLt A) (kyS opsLt B (puO opsLt A) (frF i 0)) := by
  have hp : puO opsLt A = opsLt.ml (kyC (i + 1)) nine := by unfold puO; rw [h.aow]
  have hm : kySm B (puO opsLt A) = false := by
    unfold kySm
    cases hg : B.go
    · rfl
    · obtain ⟨h1, h2, h3⟩ := h.bgo hg
      rw [hp, h3, Bool.true_and]
      refine decide_eq_false ?_
      have := pub_ne (j := i - 2) (by omega)
      rw [show i - 2 + 3 = i + 1 by omega, show i - 2 + 1 = i - 1 by omega] at this
      exact this
  have hs : opsLt.ml B.ow (puO opsLt A) = opsLt.ml A.ow A.th := by
    rw [hp, h.bow, h.aow, h.ath]
    exact sec_comm (by omega) (by omega)
  have hz1 : nz opsLt B.ow (puO opsLt A) = true := by
    unfold nz
    rw [hs, h.aow, h.ath, decide_eq_false (sec_nz (by omega))]
    rfl
  have hz2 : nz opsLt (frF i 0) (puO opsLt A) = true := by
    unfold nz
    rw [hp, show frF i 0 = kyC (i + 1 + 1) from rfl, decide_eq_false (sec_nz (j := i + 1) (by omega))]
    rfl
  have hg : opsLt.g32 (puO opsLt A) = true := by
    rw [hp, opsLt_g32]
    exact pub_g32 (by omega)
  have hb : (!B.go || (decide (A.bf = B.gn) && decide (B.gn ≤ 3))) = true := by
    cases hg : B.go
    · rfl
    · obtain ⟨h1, h2, h3⟩ := h.bgo hg
      rw [h2, decide_eq_true rfl, decide_eq_true h.bf]
      rfl
  refine ⟨stepOk_mk h.so (by rw [h.sn]; decide) h.bf h.bd h.bl (by rw [h.sc]; exact l40_k2 _ _ _) ?_ ?_, ?_⟩
  · unfold kyOk okNew
    rw [hm, cond_false, hb, hg, hz1, h.lrt, hz2, l40_k1, l40_k2, h.sn]
    rfl
  · unfold kyK
    rw [hm, cond_false, hs, h.sc]
  · unfold kyS
    rw [hm, cond_false]
    have e1 : opsLt.k1 B.rt (opsLt.ml B.ow (puO opsLt A)) rtS = A.rt := by rw [hs, h.rt]
    have e2 : opsLt.k2 B.rt (opsLt.ml B.ow (puO opsLt A)) rtS = A.sc := by rw [hs, h.sc]
    have hfr : frF i 0 = kyC (i + 2) := by rw [kyC]
    generalize puO opsLt A = u at *
    exact { aow := h.aow, so := rfl, sn := by show A.sn + 1 = 1; rw [h.sn], bd := h.bd, bl := h.bl, bf := h.bf, ath := h.ath, bow := hfr, bth := hp, bgo := rfl, bgn := rfl
            bgc := by show opsLt.mc (opsLt.k2 B.rt (opsLt.ml B.ow u) rtS) [2] = opsLt.mc A.sc [2]; rw [e2]
            brt := by show opsLt.k1 (opsLt.k1 B.rt (opsLt.ml B.ow u) rtS) (opsLt.ml (frF i 0) u) rtS = _; rw [e1, hp, hfr]; exact Eq.refl _
            bsc := by show opsLt.k2 (opsLt.k1 B.rt (opsLt.ml B.ow u) rtS) (opsLt.ml (frF i 0) u) rtS = _; rw [e1, hp, hfr]; exact Eq.refl _
            bsn := rfl, bso := rfl, bbf := rfl, n3 := h.bsn, lsc := l40_mc _ _, lrt := by show l40 A.rt = true; rw [h.rt]; exact l40_k1 _ _ _, ago := h.ago }

/-! A turn, all turns. -/
theorem inv_in {i : Nat} {A B : St9} (h : InvT i A B) (hi : i < 10) : ∀ j, j ≤ 2 → StepOk opsLt i j (inF opsLt i j A B).1 (inF opsLt i j A B).2 ∧ InvJ i (j + 1) B.sn (inF opsLt i (j + 1) A B).1 (inF opsLt i (j + 1) A B).2
  | 0, _ => inv_new h hi
  | j + 1, hj => inv_same (inv_in h hi j (by omega)).2 (by omega)

theorem inv_all {bs : List Nat} (hb : bs.length ≤ 10) {A B : St9} (h : InvT 0 A B) : ∀ i, i ≤ bs.length → (i % 2 = 0 → InvT i (sidF opsLt bs A B i).1 (sidF opsLt bs A B i).2) ∧ (i % 2 = 1 → InvT i (sidF opsLt bs A B i).2 (sidF opsLt bs A B i).1)
  | 0, _ => ⟨fun _ => h, fun h => by simp at h⟩
  | i + 1, hi => by
    obtain ⟨h0, h1⟩ := inv_all hb h i (by omega)
    have hm : bs.getD i 0 % 3 ≤ 2 := by omega
    rw [show sidF opsLt bs A B (i + 1) = turnF opsLt i (i % 2) (bs.getD i 0) (sidF opsLt bs A B i).1 (sidF opsLt bs A B i).2 from rfl]
    generalize (sidF opsLt bs A B i).1 = X at *
    generalize (sidF opsLt bs A B i).2 = Y at *
    unfold turnF
    rcases Nat.mod_two_eq_zero_or_one i with hp | hp
    · rw [hp, decide_eq_true rfl, cond_true]
      exact ⟨fun hq => by omega, fun _ => inv_turn (inv_in (h0 hp) (by omega) _ hm).2 (by omega)⟩
    · rw [hp, decide_eq_false (by decide), cond_false]
      exact ⟨fun _ => inv_turn (inv_in (h1 hp) (by omega) _ hm).2 (by omega), fun hq => by omega⟩

theorem all_ok {bs : List Nat} (hb : bs.length ≤ 10) {A B : St9} (h : InvT 0 A B) : allOk opsLt bs A B := by
  intro i hi
  obtain ⟨h0, h1⟩ := inv_all hb h i (by omega)
  have hm : bs.getD i 0 % 3 ≤ 2 := by omega
  rcases Nat.mod_two_eq_zero_or_one i with hp | hp
  · exact .inl ⟨hp, fun j hj => (inv_in (h0 hp) (by omega) j (by omega)).1⟩
  · exact .inr ⟨hp, fun j hj => (inv_in (h1 hp) (by omega) j (by omega)).1⟩

end Go.Proofs.YtdhnkkogbbhnmaaGreat

namespace Go.Proofs.YtdhnkkogbbhnmaaGreat
open Go

def ofO (o : OpsLt) (s' g' : List Nat) : List Nat := o.oe (o.pub s') (o.ml g' nine) (o.ml (kc 11) nine) (o.ml (kc 12) nine) 3 4 (ofSg o s' g' (kc 11) 3)
def p13 (o : OpsLt) : List Nat := o.ml (kc 13) nine
def z1 (o : OpsLt) (g l : List Nat) : Bool := tgZ o g (o.pc 65 32 l) (kc 13) (o.pc 33 32 l) (kc 13) (o.pc 65 32 l) (kc 13) (o.pc 97 32 l)
def k1T (o : OpsLt) (g l : List Nat) : List Nat := tgK o g (o.pc 65 32 l) (kc 13) (o.pc 33 32 l) (kc 13) (o.pc 65 32 l) (kc 13) (o.pc 97 32 l)
def b1T (o : OpsLt) (s g l : List Nat) : List Nat := bdO o (o.pub s) (o.ml g nine) (o.pc 1 32 l) (o.pc 33 32 l)
def z2 (o : OpsLt) (g g' : List Nat) : Bool := tgZ o (kc 11) (o.ml g nine) g' (p13 o) (kc 11) (p13 o) (kc 12) (p13 o)
def k2T (o : OpsLt) (g g' : List Nat) : List Nat := tgK o (kc 11) (o.ml g nine) g' (p13 o) (kc 11) (p13 o) (kc 12) (p13 o)
def b2T (o : OpsLt) (s g s' g' : List Nat) : List Nat := bdO o (o.pub s) (o.ml g nine) (o.pub s') (o.ml g' nine)
def bgN (o : OpsLt) (s l : List Nat) : List Bool := [decide ((o.pc 1 32 l).length = 32), decide ((o.pc 137 64 l).length = 64), decide ((o.pc 33 32 l).length = 32), decide ((o.pc 65 32 l).length = 32), o.cok (o.pc 1 32 l) (o.pc 137 64 l) [sgA, o.pc 33 32 l, o.pc 65 32 l, num4 (o.a4 l 129)],
  !decide (o.pc 97 32 l = zero32), o.g32 (o.pc 33 32 l), o.g32 (o.pc 65 32 l), o.g32 (o.pc 97 32 l), decide (s.length = 32), decide ((o.pub s).length = 32)]
def acN (o : OpsLt) (s g s' : List Nat) : List Bool := [decide (s.length = 32), o.g32 (o.ml g nine), o.g32 (p13 o), decide (s'.length = 32), decide ((o.pub s).length = 32), decide ((o.ml g nine).length = 32), decide ((o.pub s').length = 32)]
def f3R (b : Bool) : Option (AV × List (Option Blk)) := some (.s (.bool b), [])
noncomputable def f3T (o : OpsLt) (s g s' g' bs l : List Nat) : Option (AV × List (Option Blk)) :=
 (nd [decide (l.getD 0 0 = 1)]
 (cond (!decide (o.a4 l 129 = 3)) (f3R false)
 (cond (!decide (o.a4 l 133 = 4)) (f3R false)
 (nd (bgN o s l)
 (cond (z1 o g l)
  (nd (acN o s g s') (cond (z2 o g g') (f3R (decide (50 = 50))) (f3R (decide (50 = 0)))))
  (nd (acN o s g s') (cond (z2 o g g') (f3R (decide (0 = 50)))
   (nd [o.g32 (o.pc 65 32 l), nz o (kc 14) (o.pc 65 32 l), l40 (k1T o g l)]
    (cond (!(decide (k1T o g l = k2T o g g') && decide (b1T o s g l = b2T o s g s' g'))) (f3R false)
     (nd [decide (bs.length < 9223372036854775808), decide (bs.length = bs.length), decide (bs.length < 9223372036854775808), alB o bs (bgS o (k1T o g l) (b1T o s g l) (o.pc 65 32 l) (kc 14)) (acS (k2T o g g') (b2T o s g s' g') (kc 11))] (f3R true)))))))))))
set_option maxRecDepth 100000 in
theorem rLaw (o : OpsLt) (s g s' g' bs : List Nat) : runL Tryz.prog (envLH o) [] .nat 40 [(0, Sou o)] Tryz.f3 [.agg [.ints .u8 32 s, .ints .u8 32 g], .agg [.ints .u8 32 s', .ints .u8 32 g'], .s (.xsl (.ints .u8 bs))] [] =
 nd [decide (s'.length = 32), decide (bs.length < 9223372036854775808)] (cond (decide (10 < bs.length)) (f3R true) (f3T o s g s' g' bs (ofO o s' g'))) := by kernel_rfl

end Go.Proofs.YtdhnkkogbbhnmaaGreat

namespace Go.Proofs.YtdhnkkogbbhnmaaGreat
open Go Fq

theorem pub_len (s : List Nat) : (opsLt.pub s).length = 32 := by
  rw [opsLt_pub, mkA_enc]
  exact encP_len _
theorem sig_len (s : List Nat) (ps : List (List Nat)) : (opsLt.sig s ps).length = 64 := by
  rw [opsLt_sig, mkSig_eq, List.length_append, encP_len, dB_len]

theorem kc_g32 : g32 (kc 11) = true ∧ g32 (kc 12) = true ∧ g32 (kc 13) = true := by decide +kernel
theorem kc12 : opsLt.ml (kc 12) nine = opsLt.ml (kyC 0) nine := by
  rw [opsLt_ml]
  obtain ⟨G, hG⟩ := lad_ex (c (uV nine))
  rw [ml_val kc_g32.2.1 nine_g32 hG, ml_val (kk_g32 0 (by omega)) nine_g32 hG]
  rw [show nK (kc 12) = nK (kyC 0) by decide +kernel]
theorem p12_nz : opsLt.ml (kc 12) nine ≠ zero32 := by
  intro h
  have h1 := pub_uV (j := 0) (by omega)
  rw [← kc12, h, uV_z] at h1
  have h2 := c_eq.1 h1
  rw [Nat.mod_eq_of_lt (ww_lt 0 (by omega))] at h2
  exact absurd h2 (by decide +kernel)


structure OffF (o : OpsLt) (l a b c d e : List Nat) : Prop where
  d0 : l.getD 0 0 = 1
  d1 : o.pc 1 32 l = a
  d2 : o.pc 33 32 l = b
  d3 : o.pc 65 32 l = c
  d4 : o.pc 97 32 l = d
  e1 : o.a4 l 129 = 3
  e2 : o.a4 l 133 = 4
  d5 : o.pc 137 64 l = e
theorem off_facts {a b c d e : List Nat} (ha : a.length = 32) (hb : b.length = 32) (hc : c.length = 32) (hd : d.length = 32) (he : e.length = 64) : OffF opsLt (opsLt.oe a b c d 3 4 e) a b c d e := by
  rw [opsLt_oe]
  obtain ⟨h1, h2, h3, h4, h5, h6, h7, h8⟩ := off_back (b := 3) (n := 4) ha hb hc hd he (by decide) (by decide)
  exact ⟨h1, by rw [opsLt_pc]; exact h2, by rw [opsLt_pc]; exact h3, by rw [opsLt_pc]; exact h4, by rw [opsLt_pc]; exact h5, by rw [opsLt_a4]; exact h6, by rw [opsLt_a4]; exact h7, by rw [opsLt_pc]; exact h8⟩

structure F3Ok (o : OpsLt) (s g s' g' bs l : List Nat) : Prop where
  off : OffF o l (o.pub s') (o.ml g' nine) (o.ml (kc 11) nine) (o.ml (kc 12) nine) (ofSg o s' g' (kc 11) 3)
  bg : ∀ x ∈ bgN o s l, x = true
  ac : ∀ x ∈ acN o s g s', x = true
  zz : z1 o g l = z2 o g g'
  kk : k1T o g l = k2T o g g'
  bb : b1T o s g l = b2T o s g s' g'
  gg : o.g32 (o.pc 65 32 l) = true
  nn : nz o (kc 14) (o.pc 65 32 l) = true
  ll : l40 (k1T o g l) = true
  al : alB o bs (bgS o (k1T o g l) (b1T o s g l) (o.pc 65 32 l) (kc 14)) (acS (k2T o g g') (b2T o s g s' g') (kc 11)) = true
  hb : bs.length ≤ 10

theorem f3T_true {o : OpsLt} {s g s' g' bs l : List Nat} (h : F3Ok o s g s' g' bs l) : f3T o s g s' g' bs l = f3R true := by
  unfold f3T
  rw [h.off.d0, h.off.e1, h.off.e2, h.zz]
  refine nd_of (by simp) (cond_f (by simp) (cond_f (by simp) (nd_of h.bg ?_)))
  have hac := h.ac
  cases hz : z2 o g g'
  · refine cond_f rfl (nd_of hac (cond_f rfl (nd_of ?_ (cond_f ?_ (nd_of ?_ rfl)))))
    · simp only [List.mem_cons, List.not_mem_nil, or_false, forall_eq_or_imp, forall_eq]
      exact ⟨h.gg, h.nn, h.ll⟩
    · rw [decide_eq_true h.kk, decide_eq_true h.bb]
      rfl
    · have hb := h.hb
      simp only [List.mem_cons, List.not_mem_nil, or_false, forall_eq_or_imp, forall_eq]
      exact ⟨decide_eq_true (by omega), by simp, decide_eq_true (by omega), h.al⟩
  · exact cond_t rfl (nd_of hac (cond_t rfl rfl))

end Go.Proofs.YtdhnkkogbbhnmaaGreat

namespace Go.Proofs.YtdhnkkogbbhnmaaGreat
open Go Fq

theorem cok_ok (s : List Nat) (ps : List (List Nat)) : opsLt.cok (opsLt.pub s) (opsLt.sig s ps) ps = true := by
  rw [opsLt_cok, opsLt_pub, opsLt_sig]
  exact make_ok s ps
theorem mlg {k u : List Nat} (hk : g32 k = true) (hu : g32 u = true) : opsLt.g32 (opsLt.ml k u) = true := by
  rw [opsLt_g32, opsLt_ml]
  exact ml_g32 hk hu
theorem mlc {a b u : List Nat} (ha : g32 a = true) (hb : g32 b = true) (hu : g32 u = true) : opsLt.ml a (opsLt.ml b u) = opsLt.ml b (opsLt.ml a u) := by
  rw [opsLt_ml]
  exact ml_comm ha hb hu
theorem off_ok (s' g' : List Nat) : OffF opsLt (ofO opsLt s' g') (opsLt.pub s') (opsLt.ml g' nine) (opsLt.ml (kc 11) nine) (opsLt.ml (kc 12) nine) (ofSg opsLt s' g' (kc 11) 3) :=
  off_facts (pub_len _) (mlO_len _ _) (mlO_len _ _) (mlO_len _ _) (by unfold ofSg; exact sig_len _ _)

theorem bg_of {o : OpsLt} {s l a b c d e : List Nat} (F : OffF o l a b c d e) (h1 : a.length = 32) (h2 : e.length = 64) (h3 : b.length = 32) (h4 : c.length = 32) (h5 : o.cok a e [sgA, b, c, num4 3] = true)
    (h6 : d ≠ zero32) (h7 : o.g32 b = true) (h8 : o.g32 c = true) (h9 : o.g32 d = true) (h10 : s.length = 32) (h11 : (o.pub s).length = 32) : ∀ x ∈ bgN o s l, x = true := by
  unfold bgN
  rw [F.d1, F.d2, F.d3, F.d4, F.d5, F.e1]
  simp only [List.mem_cons, List.not_mem_nil, or_false, forall_eq_or_imp, forall_eq]
  exact ⟨decide_eq_true h1, decide_eq_true h2, decide_eq_true h3, decide_eq_true h4, h5, by rw [decide_eq_false h6]; rfl, h7, h8, h9, decide_eq_true h10, decide_eq_true h11⟩
theorem ac_of {o : OpsLt} {s g s' : List Nat} (h1 : s.length = 32) (h2 : o.g32 (o.ml g nine) = true) (h3 : o.g32 (p13 o) = true) (h4 : s'.length = 32) (h5 : (o.pub s).length = 32) (h6 : (o.ml g nine).length = 32) (h7 : (o.pub s').length = 32) :
    ∀ x ∈ acN o s g s', x = true := by
  unfold acN
  simp only [List.mem_cons, List.not_mem_nil, or_false, forall_eq_or_imp, forall_eq]
  exact ⟨decide_eq_true h1, h2, h3, decide_eq_true h4, decide_eq_true h5, decide_eq_true h6, decide_eq_true h7⟩

structure CoF (o : OpsLt) (g g' : List Nat) : Prop where
  c1 : o.ml g (o.ml (kc 11) nine) = o.ml (kc 11) (o.ml g nine)
  c2 : o.ml (kc 13) (o.ml g' nine) = o.ml g' (p13 o)
  c3 : o.ml (kc 13) (o.ml (kc 11) nine) = o.ml (kc 11) (p13 o)
  c4 : o.ml (kc 13) (o.ml (kc 12) nine) = o.ml (kc 12) (p13 o)
theorem co_ok {g g' : List Nat} (hg : g32 g = true) (hg' : g32 g' = true) : CoF opsLt g g' := by
  obtain ⟨h1, h2, h3⟩ := kc_g32
  exact ⟨mlc hg h1 nine_g32, mlc h3 hg' nine_g32, mlc h3 h1 nine_g32, mlc h3 h2 nine_g32⟩
theorem zz_of {o : OpsLt} {g g' l a e : List Nat} (F : OffF o l a (o.ml g' nine) (o.ml (kc 11) nine) (o.ml (kc 12) nine) e) (h : CoF o g g') : z1 o g l = z2 o g g' := by
  unfold z1 z2 tgZ
  rw [F.d2, F.d3, F.d4, h.c1, h.c2, h.c3, h.c4]
theorem kk_of {o : OpsLt} {g g' l a e : List Nat} (F : OffF o l a (o.ml g' nine) (o.ml (kc 11) nine) (o.ml (kc 12) nine) e) (h : CoF o g g') : k1T o g l = k2T o g g' := by
  unfold k1T k2T tgK tgL
  rw [F.d2, F.d3, F.d4, h.c1, h.c2, h.c3, h.c4]
theorem bb_of {o : OpsLt} {s g s' g' l c d e : List Nat} (F : OffF o l (o.pub s') (o.ml g' nine) c d e) : b1T o s g l = b2T o s g s' g' := by
  unfold b1T b2T
  rw [F.d1, F.d2]
theorem ka_l40 (a b c : List Nat) : l40 (opsLt.ka a b c) = true := by
  rw [opsLt_ka]
  unfold kaF e1F
  exact l40_of (ex_len _ _ _ _) (by decide)
theorem s2_len (ps : List (List Nat)) : (opsLt.s2 ps).length = 32 := by
  rw [opsLt_s2]
  exact sumF2_len ps

theorem sec_z : opsLt.ml (kc 14) (opsLt.ml (kc 11) nine) ≠ zero32 := by
  have h := sec_nz (j := 0) (by omega)
  rw [show kyC (0 + 1) = kc 14 from rfl, show kyC 0 = kc 11 from rfl] at h
  exact h

theorem inv_0 {k b t : List Nat} (hk : l40 k = true) (hb : b.length = 32) (ht : t = opsLt.ml (kc 11) nine) : InvT 0 (bgS opsLt k b t (kc 14)) (acS k b (kc 11)) where
  aow := rfl
  bow := rfl
  ath := ht
  so := rfl
  sn := rfl
  bd := rfl
  bl := hb
  rt := rfl
  sc := rfl
  bf := Nat.zero_le _
  bsn := Nat.zero_le _
  lrt := hk
  bgo := fun h => by cases h
  ago := fun h => by cases h

theorem f3_ok {s g s' g' bs : List Nat} (hs : s.length = 32) (hg : g32 g = true) (hs' : s'.length = 32) (hg' : g32 g' = true) (hb : bs.length ≤ 10) : F3Ok opsLt s g s' g' bs (ofO opsLt s' g') := by
  have F := off_ok s' g'
  have C := co_ok hg hg'
  have hz := zz_of F C
  have hk := kk_of F C
  have hbb : b1T opsLt s g (ofO opsLt s' g') = b2T opsLt s g s' g' := bb_of F
  obtain ⟨q1, q2, q3⟩ := kc_g32
  have hn : nz opsLt (kc 14) (opsLt.pc 65 32 (ofO opsLt s' g')) = true := by
    rw [F.d3]
    unfold nz
    rw [decide_eq_false sec_z]
    rfl
  have hl : l40 (k1T opsLt g (ofO opsLt s' g')) = true := by
    unfold k1T tgK
    exact ka_l40 _ _ _
  have hbl : (b2T opsLt s g s' g').length = 32 := by
    unfold b2T bdO
    exact s2_len _
  refine ⟨F, ?_, ?_, hz, hk, hbb, ?_, hn, hl, ?_, hb⟩
  · exact bg_of F (pub_len _) (by unfold ofSg; exact sig_len _ _) (mlO_len _ _) (mlO_len _ _) (by unfold ofSg; exact cok_ok _ _) p12_nz (mlg hg' nine_g32) (mlg q1 nine_g32) (mlg q2 nine_g32) hs (pub_len _)
  · exact ac_of hs (mlg hg nine_g32) (mlg q3 nine_g32) hs' (pub_len _) (mlO_len _ _) (pub_len _)
  · rw [F.d3]
    exact mlg q1 nine_g32
  · rw [hk, hbb]
    rw [hk] at hl
    exact @decide_eq_true _ (Classical.propDecidable _) (all_ok hb (inv_0 hl hbl F.d3))

theorem f3_true {s g s' g' bs : List Nat} (hs : s.length = 32) (hg : g32 g = true) (hs' : s'.length = 32) (hg' : g32 g' = true) (hb : bs.length ≤ 10) : f3T opsLt s g s' g' bs (ofO opsLt s' g') = f3R true :=
  f3T_true (f3_ok hs hg hs' hg' hb)

end Go.Proofs.YtdhnkkogbbhnmaaGreat
