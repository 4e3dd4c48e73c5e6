/- Rx, part 20: how a run is reckoned with open data: what comes next is handed on. -/
import Derived.Test.YtghiaobecppbeaaRxS
namespace Go.Rx
open Go Go.RowKit
set_option linter.unusedVariables false
set_option linter.unusedSimpArgs false

/-- A region's operations, one by one. -/
def runL (P : Program) (cfg : Cfg) (ic : Ic) (nt : Nat) (ops : Array Oper) : List Oper → St → Option (Option AV × St)
  | [], st => some (none, st)
  | o :: l, st => (match wantedA ops st.fr o with
    | none => none
    | some true => runOp P cfg ic nt o st
    | some false => (putF nt o.dst (.tuple []) st.fr st.H).map fun s => (none, s)).bind fun r => match r.1 with
    | some v => some (some v, r.2)
    | none => runL P cfg ic nt ops l r.2
theorem runOps_L {P : Program} {cfg : Cfg} {ic : Ic} {nt : Nat} {ops : Array Oper} : ∀ (n i : Nat) (st : St), i + n = ops.size → runOps P cfg ic nt ops (List.range' i n) st = runL P cfg ic nt ops (ops.toList.drop i) st
  | 0, i, st, h => by
    rw [List.drop_eq_nil_of_le (by simp; omega)]; rfl
  | n + 1, i, st, h => by
    have hi : i < ops.toList.length := by simp; omega
    have ho : ops[i]? = some ops.toList[i] := by simp [show i < ops.size by omega]
    rw [List.range'_succ, List.drop_eq_getElem_cons hi]
    simp only [runOps, runL, stepOp, ho]
    congr 1
    funext r
    cases r.1 with
    | some v => rfl
    | none => exact runOps_L n (i + 1) r.2 (by omega)
theorem runOps_all {P : Program} {cfg : Cfg} {ic : Ic} {nt : Nat} {ops : Array Oper} {st : St} : runOps P cfg ic nt ops (List.range ops.size) st = runL P cfg ic nt ops ops.toList st := by
  rw [List.range_eq_range', runOps_L ops.size 0 st (by omega)]; simp

section
variable {R : Type}
/-- A value is laid open. -/
def force (a : AV) (K : AV → R) : R :=
  match a with
  | .undef => K .undef
  | .d x => match x with
    | .bool b => K (.d (.bool b))
    | .int k n => K (.d (.int k n))
    | .str s => K (.d (.str s))
    | .list es => K (.d (.list es))
    | .nilp => K (.d .nilp)
  | .nilsl => K .nilsl
  | .agg vs => K (.agg vs)
  | .tuple vs => K (.tuple vs)
  | .own o v n => K (.own o v n)
  | .ptr o n => K (.ptr o n)
  | .eptr o v i n => K (.eptr o v i n)
  | .rptr e n => K (.rptr e n)
  | .fn f c => K (.fn f c)
  | .iface t a => K (.iface t a)
theorem force_eq (a : AV) (K : AV → R) : force a K = K a := by
  cases a <;> try rfl
  rename_i x
  cases x <;> rfl
noncomputable def forceL (l : List AV) : (List AV → R) → R :=
  List.rec (motive := fun _ => (List AV → R) → R) (fun K => K []) (fun a _ ih K => force a fun a => ih fun r => K (a :: r)) l
theorem forceL_eq : ∀ (l : List AV) (K : List AV → R), forceL l K = K l
  | [], K => rfl
  | a :: r, K => by
    show force a (fun a => forceL r fun r => K (a :: r)) = _
    simp only [force_eq, forceL_eq r]
/-- A heap's first object is laid open. -/
noncomputable def forceH (H : Hp) (K : Hp → R) : R :=
  match H with
  | [] => K []
  | (o, .cells cs) :: r => forceL cs fun cs => K ((o, .cells cs) :: r)
  | (o, .arr e s v es) :: r => K ((o, .arr e s v es) :: r)
  | (o, .frz e s v es) :: r => K ((o, .frz e s v es) :: r)
theorem forceH_eq (H : Hp) (K : Hp → R) : forceH H K = K H := by
  cases H with
  | nil => rfl
  | cons x r =>
    obtain ⟨o, x⟩ := x
    cases x with
    | cells cs => simp only [forceH, forceL_eq]
    | arr => rfl
    | frz => rfl
noncomputable def forceV (a : AV) (K : AV → R) : R := force a fun a => match a with
  | .agg vs => forceL vs fun vs => K (.agg vs)
  | .tuple vs => forceL vs fun vs => K (.tuple vs)
  | a => K a
theorem forceV_eq (a : AV) (K : AV → R) : forceV a K = K a := by
  unfold forceV
  rw [force_eq]
  cases a <;> simp only [forceL_eq]

noncomputable def forceSp {α : Type} (l : List α) : (List α → R) → R :=
  List.rec (motive := fun _ => (List α → R) → R) (fun K => K []) (fun a _ ih K => ih fun r => K (a :: r)) l
theorem forceSp_eq {α : Type} : ∀ (l : List α) (K : List α → R), forceSp l K = K l
  | [], K => rfl
  | a :: r, K => by
    show forceSp r (fun r => K (a :: r)) = _
    simp only [forceSp_eq r]
def forceHd {α : Type} (l : List α) (K : List α → R) : R :=
  match l with
  | [] => K []
  | x :: r => K (x :: r)
theorem forceHd_eq {α : Type} (l : List α) (K : List α → R) : forceHd l K = K l := by cases l <;> rfl
noncomputable def forceO (x : AObj) (K : AObj → R) : R :=
  match x with
  | .cells cs => forceL cs fun cs => K (.cells cs)
  | .arr e s v es => K (.arr e s v es)
  | .frz e s v es => K (.frz e s v es)
theorem forceO_eq (x : AObj) (K : AObj → R) : forceO x K = K x := by cases x <;> simp only [forceO, forceL_eq]
noncomputable def forceHp (H : Hp) : (Hp → R) → R :=
  List.rec (motive := fun _ => (Hp → R) → R) (fun K => K []) (fun p _ ih K => forceO p.2 fun x => ih fun r => K ((p.1, x) :: r)) H
theorem forceHp_eq : ∀ (H : Hp) (K : Hp → R), forceHp H K = K H
  | [], K => rfl
  | (o, x) :: r, K => by
    show forceO x (fun x => forceHp r fun r => K ((o, x) :: r)) = _
    simp only [forceO_eq, forceHp_eq r]
noncomputable def forceQ (q : Bool) (H : Hp) (K : Hp → R) : R :=
  match q with
  | true => forceHd H K
  | false => forceHp H K
theorem forceQ_eq (q : Bool) (H : Hp) (K : Hp → R) : forceQ q H K = K H := by cases q <;> simp only [forceQ, forceHd_eq, forceHp_eq]
def dstK (x : Option Tmp) (K : Nat → R) : R :=
  match x with
  | some d => K d
  | none => K 0
theorem dstK_eq (x : Option Tmp) (K : Nat → R) : dstK x K = K (x.getD 0) := by cases x <;> rfl

/-- An open result, and what comes next. -/
noncomputable def nextK {α : Type} (x : Option α) (K : α → Option R) : Option R := Option.rec (motive := fun _ => Option R) none (fun a => K a) x
theorem nextK_eq {α : Type} (x : Option α) (K : α → Option R) : nextK x K = x.bind K := by cases x <;> rfl

noncomputable def putK (nt : Nat) (dst : Option Tmp) (v : AV) (fr : Fr) (H : Hp) (K : St → Option R) : Option R :=
  match dst with
  | some d => if d < nt then forceV v fun v => forceHd fr fun fr => forceHd H fun H => K ⟨(d, v) :: fr, H⟩ else none
  | none => forceHd fr fun fr => forceHd H fun H => K ⟨fr, H⟩
theorem putK_eq (nt : Nat) (dst : Option Tmp) (v : AV) (fr : Fr) (H : Hp) (K : St → Option R) : putK nt dst v fr H K = (putF nt dst v fr H).bind K := by
  cases dst with
  | none => simp [putK, putF, forceHd_eq]
  | some d =>
    simp only [putK, putF, forceV_eq, forceHd_eq]
    split <;> rfl

/-- What is open stays open: a test that is not known parts the way. -/
noncomputable def iteK (c : Bool) (A B : Option R) : Option R := Bool.rec (motive := fun _ => Option R) B A c
noncomputable def iteC (c : Bool) (A B : Option R) : Option R := Bool.rec (motive := fun _ => Option R) B A c
/-- It is not looked at till it is asked for. -/
noncomputable def hold (c : Bool) : Bool := @decide (c = true) (Classical.propDecidable _)
theorem hold_eq (c : Bool) : hold c = c := by cases c <;> simp [hold]
noncomputable def iteO (c : Bool) (A B : Option R) : Option R := Bool.rec (motive := fun _ => Option R) B A (hold c)
theorem iteO_t {c : Bool} {A B r : Option R} (h : c = true) (h1 : A = r) : iteO c A B = r := by subst h; unfold iteO; rw [hold_eq]; exact h1
theorem iteO_eq (c : Bool) (A B : Option R) : iteO c A B = if c then A else B := by unfold iteO; rw [hold_eq]; cases c <;> rfl
theorem iteK_t {c : Bool} {A B r : Option R} (h : c = true) (h1 : A = r) : iteK c A B = r := by subst h; unfold iteK; exact h1
theorem iteK_f {c : Bool} {A B r : Option R} (h : c = false) (h1 : B = r) : iteK c A B = r := by subst h; unfold iteK; exact h1
theorem iteK_of {c : Bool} {A B r : Option R} (h1 : c = true → A = r) (h2 : c = false → B = r) : iteK c A B = r := by
  cases hc : c
  · exact iteK_f rfl (h2 hc)
  · exact iteK_t rfl (h1 hc)
theorem iteK_true (A B : Option R) : iteK true A B = A := by unfold iteK; rfl
theorem iteK_false (A B : Option R) : iteK false A B = B := by unfold iteK; rfl

noncomputable def forceA (l : List AV) : (List AV → R) → R :=
  List.rec (motive := fun _ => (List AV → R) → R) (fun K => K []) (fun a _ ih K => forceV a fun a => ih fun r => K (a :: r)) l
theorem forceA_eq : ∀ (l : List AV) (K : List AV → R), forceA l K = K l
  | [], K => rfl
  | a :: r, K => by
    show forceV a (fun a => forceA r fun r => K (a :: r)) = _
    simp only [forceV_eq, forceA_eq r]

theorem iteK_eq (c : Bool) (A B : Option R) : iteK c A B = if c then A else B := by cases c <;> rfl
theorem iteC_eq (c : Bool) (A B : Option R) : iteC c A B = if c then A else B := by cases c <;> rfl
end
/-- A call of plain data, and of none of the caller's objects. -/
def plainV : AV → Bool
  | .d _ => true
  | .agg vs => vs.all fun a => match a with | .d _ => true | _ => false
  | .fn _ [] => true
  | _ => false
def plainR : AV → Bool
  | .tuple vs => vs.all plainV
  | .iface _ a => plainV a
  | a => plainV a
theorem sealCs_plain (H : Hp) : ∀ (l : List AV), (l.all fun a => match a with | .d _ => true | _ => false) = true → sealCs H l = (l, H)
  | [], _ => rfl
  | a :: r, h => by
    simp only [List.all_cons, Bool.and_eq_true] at h
    cases a <;> simp only [] at h <;> try (cases h.1)
    simp only [sealCs, sealC, sealCs_plain H r h.2]
theorem sealArgs_plain (own : List Nat) (H : Hp) : ∀ (l : List AV) (i : Nat), l.all plainV = true → sealArgs own i H l = (l, H)
  | [], i, _ => rfl
  | a :: r, i, h => by
    simp only [List.all_cons, Bool.and_eq_true] at h
    have ih := sealArgs_plain own H r (i + 1) h.2
    have hs : sealV H a = (a, H) := by
      have h1 := h.1
      cases a <;> simp only [plainV] at h1 <;> try (cases h1)
      · rfl
      · rename_i vs; simp only [sealV, sealCs_plain H vs h1]
      · rfl
    simp only [sealArgs, ih, hs]
    split <;> rfl
theorem hdL_plain (p : Nm) : ∀ (l : List AV) (k : Nat), (l.all fun a => match a with | .d _ => true | _ => false) = true → hdL p k l = []
  | [], k, _ => rfl
  | a :: r, k, h => by
    simp only [List.all_cons, Bool.and_eq_true] at h
    cases a <;> simp only [] at h <;> try (cases h.1)
    simp only [hdL, hd1, hdL_plain p r (k + 1) h.2, List.append_nil]
theorem hdArgs_plain (mk : Nat → Nm) : ∀ (l : List AV) (i : Nat), l.all plainV = true → hdArgs mk i l = []
  | [], i, _ => rfl
  | a :: r, i, h => by
    simp only [List.all_cons, Bool.and_eq_true] at h
    have hs : hds (mk i) a = [] := by
      have h1 := h.1
      cases a <;> simp only [plainV] at h1 <;> try (cases h1)
      · rfl
      · rename_i vs; simp only [hds, hdL_plain _ vs 0 h1]
      · rename_i f c; cases c <;> first | rfl | (simp only [plainV] at h1; cases h1)
    simp only [hdArgs, hs, hdArgs_plain mk r (i + 1) h.2, List.append_nil]
theorem ren_plain (g : Gm) (H : Hp) : ∀ (a : AV), plainV a = true → ren g H a = a := fun a h => by
  have inner : ∀ (l : List AV), (l.all fun a => match a with | .d _ => true | _ => false) = true → renL g H l = l := fun l => by
    induction l with
    | nil => intro _; rfl
    | cons b r ih =>
      intro h
      simp only [List.all_cons, Bool.and_eq_true] at h
      cases b <;> simp only [] at h <;> try (cases h.1)
      simp only [renL, ren, ih h.2]
  cases a <;> simp only [plainV] at h <;> try (cases h)
  · rfl
  · rename_i vs; simp only [ren, inner vs h]
  · rename_i f c; cases c <;> first | rfl | (simp only [plainV] at h; cases h)
theorem renL_plain (g : Gm) (H : Hp) : ∀ (l : List AV), l.all plainV = true → renL g H l = l
  | [], _ => rfl
  | a :: r, h => by
    simp only [List.all_cons, Bool.and_eq_true] at h
    simp only [renL, ren_plain g H a h.1, renL_plain g H r h.2]
theorem renR_plain (g : Gm) (H : Hp) (a : AV) (h : plainR a = true) : ren g H a = a := by
  cases a <;> simp only [plainR] at h <;> first
    | exact ren_plain g H _ h
    | (simp only [ren, renL_plain g H _ h]; done)
    | (simp only [ren, ren_plain g H _ h]; done)
def plainRes : Res → Bool
  | .ret a => plainR a
  | .pan a => plainR a
theorem callA_plain {cfg : Cfg} {ic : Ic} {dst : Nat} {f : FuncId} {args : List AV} {H : Hp} {r : Res} (h : ic f args [] = some (r, [])) (ha : args.all plainV = true) (hr : plainRes r = true) : callA cfg ic dst f args H = some (r, H) := by
  have e1 : gArgs H args = [] := by
    simp only [gArgs, hdArgs_plain _ args 0 ha, gather]
    rfl
  unfold callA
  simp only [sealArgs_plain _ H args 0 ha, e1, renL_plain _ _ args ha, renHp, h]
  have e2 : dropP [] H = H := by
    unfold dropP
    rw [List.filter_eq_self.2]
    intro x _; rfl
  have e3 : mapRes (ren (gBack [] dst H []) []) r = r := by
    cases r with
    | ret a => simp only [mapRes]; rw [renR_plain _ _ a hr]
    | pan a => simp only [mapRes]; rw [renR_plain _ _ a hr]
  have ok : Gm.ok [] = true := by decide
  have bok : backOk [] (gBack [] dst H []) H [] = true := by
    simp [backOk, gBack, ok]
  simp only [ok, if_true, Option.bind_some, bok, e3, e2]
  rfl
section
variable {R : Type}

noncomputable def forceNm (n : Nm) : (Nm → R) → R :=
  Nm.rec (motive := fun _ => (Nm → R) → R) (fun t K => K (.slot t)) (fun i K => K (.arg i)) (fun t K => K (.res t)) (fun _ k ih K => ih fun n => K (.cell n k)) n
theorem forceNm_eq : ∀ (n : Nm) (K : Nm → R), forceNm n K = K n
  | .slot _, K => rfl
  | .arg _, K => rfl
  | .res _, K => rfl
  | .cell n k, K => by
    show forceNm n (fun n => K (.cell n k)) = _
    simp only [forceNm_eq n]
noncomputable def forceG (g : Gm) : (Gm → R) → R :=
  List.rec (motive := fun _ => (Gm → R) → R) (fun K => K []) (fun x _ ih K => forceNm x.1 fun o => forceNm x.2.1 fun p => ih fun r => K ((o, (p, x.2.2)) :: r)) g
theorem forceG_eq : ∀ (g : Gm) (K : Gm → R), forceG g K = K g
  | [], K => rfl
  | x :: r, K => by
    show forceNm x.1 (fun o => forceNm x.2.1 fun p => forceG r fun r => K ((o, (p, x.2.2)) :: r)) = _
    simp only [forceNm_eq, forceG_eq r]
/-- A call, laid open. -/
noncomputable def callS (cfg : Cfg) (ic : Ic) (dst : Nat) (f : FuncId) (args1 : List AV) (H1 : Hp) (K : Res × Hp → Option R) : Option R :=
  forceG (gArgs H1 args1) fun g => iteC g.ok (forceA (renL g H1 args1) fun a2 => forceHp (renHp g H1 g) fun H2 => nextK (ic f a2 H2) fun r =>
    forceG (gBack g dst H1 r.2) fun b => iteC (backOk g b H1 r.2) (K (mapRes (ren b r.2) r.1, renHp b r.2 b ++ dropP g H1)) none) none
noncomputable def callK (cfg : Cfg) (ic : Ic) (dst : Nat) (f : FuncId) (args : List AV) (H : Hp) (K : Res × Hp → Option R) : Option R :=
  match args.all plainV with
  | true => nextK (ic f args []) fun r => nextK (match r.2, plainRes r.1 with
    | [], true => some (r.1, H)
    | _, _ => callA cfg ic dst f args H) K
  | false => forceA (sealArgs (cfg.ownA f) 0 H args).1 fun args1 => forceHp (sealArgs (cfg.ownA f) 0 H args).2 fun H1 => callS cfg ic dst f args1 H1 K
theorem callA_none {cfg : Cfg} {ic : Ic} {dst : Nat} {f : FuncId} {args : List AV} {H : Hp} (h : ic f args [] = none) (ha : args.all plainV = true) : callA cfg ic dst f args H = none := by
  have e1 : gArgs H args = [] := by
    simp only [gArgs, hdArgs_plain _ args 0 ha, gather]
    rfl
  unfold callA
  simp only [sealArgs_plain _ H args 0 ha, e1, renL_plain _ _ args ha, renHp, h]
  simp
theorem callK_eq (cfg : Cfg) (ic : Ic) (dst : Nat) (f : FuncId) (args : List AV) (H : Hp) (K : Res × Hp → Option R) : callK cfg ic dst f args H K = (callA cfg ic dst f args H).bind K := by
  unfold callK
  split
  · rename_i ha
    rw [nextK_eq]
    cases h : ic f args [] with
    | none => rw [callA_none h ha]; rfl
    | some r =>
      obtain ⟨r, Hr⟩ := r
      simp only [Option.bind_some, nextK_eq]
      split
      · rename_i h1 h2
        have h : ic f args [] = some (r, []) := by rw [h]
        rw [callA_plain h ha h2]
      · rfl
  · simp only [forceA_eq, forceHp_eq, callS, forceG_eq, iteC_eq, nextK_eq]
    unfold callA
    generalize sealArgs (cfg.ownA f) 0 H args = s
    show _ = ((if (gArgs s.2 s.1).ok = true then _ else none).bind K)
    split
    · rename_i hg
      rw [Option.bind_assoc]
      congr 1; funext r
      simp only []
      split <;> rfl
    · rfl

noncomputable def opK (P : Program) (cfg : Cfg) (ic : Ic) (nt : Nat) (o : Oper) (st : St) (K : Option AV × St → Option R) : Option R :=
  match o.op with
  | .call c => match c.callee with
    | .value fv => match evA st.fr fv with
      | .fn f caps => if plainF P f then forceA (c.args.toList.map (evA st.fr) ++ caps) fun args => dstK o.dst fun d => callK cfg ic d f args st.H fun r => (match r.1 with
          | .ret a => fun (K : Option AV × St → Option R) => forceHp r.2 fun H => putK nt o.dst a st.fr H fun s => K (none, s)
          | .pan a => fun (K : Option AV × St → Option R) => K (some a, ⟨st.fr, r.2⟩)) K
        else none
      | _ => none
    | _ => dstK o.dst fun d => nextK (aop P d (evA st.fr) st.H o.op) fun r => forceQ (quietK o.op) r.2 fun H => putK nt o.dst r.1 st.fr H fun s => K (none, s)
  | .panic x => match evA st.fr x with
    | .iface t a => K (some (.iface t a), st)
    | _ => none
  | .pick c a b => match evA st.fr c with
    | .d (.bool t) => iteK t (putK nt o.dst (evA st.fr a) st.fr st.H fun s => K (none, s)) (putK nt o.dst (evA st.fr b) st.fr st.H fun s => K (none, s))
    | _ => none
  | _ => dstK o.dst fun d => nextK (aop P d (evA st.fr) st.H o.op) fun r => forceQ (quietK o.op) r.2 fun H => putK nt o.dst r.1 st.fr H fun s => K (none, s)
theorem opK_eq (P : Program) (cfg : Cfg) (ic : Ic) (nt : Nat) (o : Oper) (st : St) (K : Option AV × St → Option R) : opK P cfg ic nt o st K = (runOp P cfg ic nt o st).bind K := by
  have gen : dstK o.dst (fun d => nextK (aop P d (evA st.fr) st.H o.op) (fun r => forceQ (quietK o.op) r.2 fun H => putK nt o.dst r.1 st.fr H fun s => K (none, s))) =
      ((aop P (o.dst.getD 0) (evA st.fr) st.H o.op).bind fun r => (putF nt o.dst r.1 st.fr r.2).map fun s => (none, s)).bind K := by
    rw [dstK_eq, nextK_eq, Option.bind_assoc]
    congr 1; funext r
    rw [forceQ_eq, putK_eq, Option.bind_map]; rfl
  unfold opK runOp
  cases ho : o.op with
  | call c =>
    simp only []
    cases hc : c.callee with
    | value fv =>
      simp only []
      cases evA st.fr fv with
      | fn f caps =>
        simp only []
        split
        · rw [forceA_eq, dstK_eq, callK_eq, Option.bind_assoc]
          congr 1; funext r
          cases r.1 with
          | ret a => simp only [forceHp_eq, putK_eq, Option.bind_map]; rfl
          | pan a => rfl
        · rfl
      | _ => rfl
    | _ => simp only []; rw [← ho]; exact gen
  | panic x =>
    simp only []
    cases evA st.fr x <;> rfl
  | pick c a b =>
    simp only [aop]
    cases evA st.fr c with
    | d x =>
      cases x with
      | bool t => cases t <;> simp only [iteK_true, iteK_false, putK_eq, Option.bind_some, Option.bind_map, if_true, Bool.false_eq_true, if_false] <;> rfl
      | _ => rfl
    | _ => rfl
  | _ => simp only []; rw [← ho]; exact gen

noncomputable def guardK (ops : Array Oper) (fr : Fr) (o : Oper) (Y N : Option R) : Option R :=
  match o.guard with
  | none => Y
  | some (j, want) => match (ops[j]?).bind (·.dst) with
    | none => N
    | some t => match fr.get t with
      | .d (.bool b) => match want with
        | true => iteK b Y N
        | false => iteK b N Y
      | .tuple [] => N
      | _ => none
theorem guardK_eq (ops : Array Oper) (fr : Fr) (o : Oper) (Y N : Option R) : guardK ops fr o Y N = match wantedA ops fr o with | none => none | some true => Y | some false => N := by
  unfold guardK wantedA
  cases o.guard with
  | none => rfl
  | some g =>
    obtain ⟨j, want⟩ := g
    simp only []
    cases (ops[j]?).bind (·.dst) with
    | none => rfl
    | some t =>
      simp only []
      cases fr.get t with
      | d x =>
        cases x with
        | bool b => cases b <;> cases want <;> rfl
        | _ => rfl
      | tuple vs => cases vs <;> rfl
      | _ => rfl

noncomputable def opsK (P : Program) (cfg : Cfg) (ic : Ic) (nt : Nat) (ops : Array Oper) (l : List Oper) : St → (Option AV × St → Option R) → Option R :=
  List.rec (motive := fun _ => St → (Option AV × St → Option R) → Option R) (fun st K => K (none, st))
    (fun o _ ih st K => guardK ops st.fr o (opK P cfg ic nt o st fun r => (match r.1 with
      | some v => fun (K : Option AV × St → Option R) => K (some v, r.2)
      | none => ih r.2) K)
    (putK nt o.dst (.tuple []) st.fr st.H fun s => ih s K)) l
theorem opsK_cons (P : Program) (cfg : Cfg) (ic : Ic) (nt : Nat) (ops : Array Oper) (o : Oper) (l : List Oper) (st : St) (K : Option AV × St → Option R) : opsK P cfg ic nt ops (o :: l) st K =
    guardK ops st.fr o (opK P cfg ic nt o st fun r => (match r.1 with
      | some v => fun (K : Option AV × St → Option R) => K (some v, r.2)
      | none => opsK P cfg ic nt ops l r.2) K)
    (putK nt o.dst (.tuple []) st.fr st.H fun s => opsK P cfg ic nt ops l s K) := rfl
theorem opsK_eq (P : Program) (cfg : Cfg) (ic : Ic) (nt : Nat) (ops : Array Oper) (K : Option AV × St → Option R) : ∀ (l : List Oper) (st : St), opsK P cfg ic nt ops l st K = (runL P cfg ic nt ops l st).bind K
  | [], st => rfl
  | o :: l, st => by
    simp only [opsK_cons, runL, guardK_eq]
    cases wantedA ops st.fr o with
    | none => rfl
    | some w =>
      cases w with
      | true =>
        simp only [opK_eq, Option.bind_assoc]
        congr 1; funext r
        cases r.1 with
        | some v => rfl
        | none => exact opsK_eq P cfg ic nt ops K l r.2
      | false =>
        simp only [putK_eq, Option.bind_assoc, Option.bind_map]
        congr 1; funext s
        exact opsK_eq P cfg ic nt ops K l s

noncomputable def opRK (P : Program) (cfg : Cfg) (ic : Ic) (o : Oper) (fr : Fr) (H : Hp) (K : AV × Hp → Option R) : Option R :=
  match o.op with
  | .call c => match c.callee with
    | .value fv => match evA fr fv with
      | .fn f caps => if plainF P f then forceA (c.args.toList.map (evA fr) ++ caps) fun args => dstK o.dst fun d => callK cfg ic d f args H fun r => match r.1 with
          | .ret a => forceHp r.2 fun H => K (a, H)
          | .pan _ => none
        else none
      | _ => none
    | _ => dstK o.dst fun d => nextK (aop P d (evA fr) H o.op) fun r => forceQ (quietK o.op) r.2 fun H => K (r.1, H)
  | .pick c a b => match evA fr c with
    | .d (.bool t) => iteK t (K (evA fr a, H)) (K (evA fr b, H))
    | _ => none
  | _ => dstK o.dst fun d => nextK (aop P d (evA fr) H o.op) fun r => forceQ (quietK o.op) r.2 fun H => K (r.1, H)
theorem opRK_eq (P : Program) (cfg : Cfg) (ic : Ic) (o : Oper) (fr : Fr) (H : Hp) (K : AV × Hp → Option R) : opRK P cfg ic o fr H K = (opR P cfg ic o fr H).bind K := by
  unfold opRK opR
  cases ho : o.op with
  | call c =>
    simp only []
    cases hc : c.callee with
    | value fv =>
      simp only []
      cases evA fr fv with
      | fn f caps =>
        simp only []
        split
        · rw [forceA_eq, dstK_eq, callK_eq, Option.bind_assoc]
          congr 1; funext r
          cases r.1 <;> simp only [forceHp_eq] <;> rfl
        · rfl
      | _ => rfl
    | _ => simp only [nextK_eq, dstK_eq, forceQ_eq]
  | pick c a b =>
    simp only [aop]
    cases evA fr c with
    | d x =>
      cases x with
      | bool t => cases t <;> rfl
      | _ => rfl
    | _ => rfl
  | _ => simp only [nextK_eq, dstK_eq, forceQ_eq]

noncomputable def dStepK (P : Program) (cfg : Cfg) (ic : Ic) (nt : Nat) (ops : Array Oper) (o : Oper) (fr : Fr) (H : Hp) (K : Rec × Fr × Hp → Option R) : Option R :=
  guardK ops fr o
      (forceSp (tmpsOf o.op.operands) fun sl => forceA (sl.map fun t => fr.get t) fun vs =>
       match mvOf o.op with
       | some x => forceV (evA (sl.zip vs) x) fun v => putK nt o.dst v fr H fun st => K (⟨o.dst, v, sl ++ gSlot ops o, [], [], []⟩, st.fr, st.H)
       | none =>
       forceSp (vs.flatMap hdlV) fun hs =>
       forceSp (reach H 200 hs []) fun nm =>
       forceHp (restr H nm) fun K0 =>
       iteC (closedK K0 && hs.all (fun p => (K0.get p).isSome))
        (opRK P cfg ic o (sl.zip vs) K0 fun x =>
          forceSp (twOf o x.2) fun tw =>
          iteC (tw.all (fun p => (K0.get p).isSome || (H.get p).isNone))
            (forceV x.1 fun v => putK nt o.dst v fr (hpOf o H x.2) fun st => K (⟨o.dst, v, sl ++ gSlot ops o, nm, tw, x.2⟩, st.fr, st.H))
            none)
        none)
      (putK nt o.dst (.tuple []) fr H fun st => K (⟨o.dst, .tuple [], gSlot ops o, [], [], []⟩, st.fr, st.H))
theorem zip_map_self {α β : Type} (g : α → β) : ∀ l : List α, l.zip (l.map g) = l.map fun t => (t, g t)
  | [] => rfl
  | a :: r => by simp [zip_map_self g r]
theorem putF_H {nt : Nat} {dst : Option Tmp} {v : AV} {fr : Fr} {H : Hp} {st : St} (h : putF nt dst v fr H = some st) : st.H = H := (putF_get h).1
theorem putF_bind {α : Type} {nt : Nat} {dst : Option Tmp} {v : AV} {fr : Fr} {H : Hp} {g g' : St → Option α} (h : ∀ s, s.H = H → g s = g' s) : (putF nt dst v fr H).bind g = (putF nt dst v fr H).bind g' := by
  cases hp : putF nt dst v fr H with
  | none => rfl
  | some s => exact h s (putF_H hp)
theorem dStepK_eq (P : Program) (cfg : Cfg) (ic : Ic) (nt : Nat) (ops : Array Oper) (j : Nat) (o : Oper) (ho : ops[j]? = some o) (fr : Fr) (H : Hp) (K : Rec × Fr × Hp → Option R) : dStepK P cfg ic nt ops o fr H K = (dStep P cfg ic nt ops j fr H).bind K := by
  unfold dStepK dStep
  simp only [ho, Option.bind_some, guardK_eq, iteC_eq, opRK_eq, forceV_eq, putK_eq, forceSp_eq, forceA_eq, forceHp_eq, zip_map_self, List.flatMap_map]
  cases wantedA ops fr o with
  | none => rfl
  | some w =>
    cases w with
    | true =>
      simp only []
      cases mvOf o.op with
      | some x => simp only []; rw [Option.bind_map]; exact putF_bind fun s hs => by simp only [Function.comp, hs]
      | none =>
      simp only []
      split
      · rw [Option.bind_assoc]
        congr 1; funext x
        split
        · rw [Option.bind_map]; rfl
        · rfl
      · rfl
    | false =>
      simp only []
      rw [Option.bind_map]; exact putF_bind fun s hs => by simp only [Function.comp, hs]
noncomputable def dGoK (P : Program) (cfg : Cfg) (ic : Ic) (nt : Nat) (ops : Array Oper) (l : List Oper) : Fr → Hp → List Rec → (List Rec × Fr × Hp → Option R) → Option R :=
  List.rec (motive := fun _ => Fr → Hp → List Rec → (List Rec × Fr × Hp → Option R) → Option R) (fun fr H acc K => K (acc, fr, H))
    (fun o _ ih fr H acc K => dStepK P cfg ic nt ops o fr H fun x => ih x.2.1 x.2.2 (acc ++ [x.1]) K) l
theorem dGoK_cons (P : Program) (cfg : Cfg) (ic : Ic) (nt : Nat) (ops : Array Oper) (o : Oper) (l : List Oper) (fr : Fr) (H : Hp) (acc : List Rec) (K : List Rec × Fr × Hp → Option R) :
    dGoK P cfg ic nt ops (o :: l) fr H acc K = dStepK P cfg ic nt ops o fr H fun x => dGoK P cfg ic nt ops l x.2.1 x.2.2 (acc ++ [x.1]) K := rfl
theorem dGoK_eq (P : Program) (cfg : Cfg) (ic : Ic) (nt : Nat) (ops : Array Oper) (K : List Rec × Fr × Hp → Option R) : ∀ (n j : Nat) (fr : Fr) (H : Hp) (acc : List Rec), j + n = ops.size → dGoK P cfg ic nt ops (ops.toList.drop j) fr H acc K = (dGo P cfg ic nt ops n j fr H acc).bind K
  | 0, j, _, _, _, h => by rw [List.drop_eq_nil_of_le (by simp; omega)]; rfl
  | n + 1, j, fr, H, acc, h => by
    have hj : j < ops.toList.length := by simp; omega
    have ho : ops[j]? = some ops.toList[j] := by simp [show j < ops.size by omega]
    rw [List.drop_eq_getElem_cons hj]
    simp only [dGoK_cons, dGo, dStepK_eq P cfg ic nt ops j _ ho, Option.bind_assoc]
    congr 1; funext x
    exact dGoK_eq P cfg ic nt ops K n (j + 1) x.2.1 x.2.2 (acc ++ [x.1]) (by omega)
noncomputable def drK (P : Program) (cfg : Cfg) (ic : Ic) (nt : Nat) (ops : Array Oper) (st : St) (K : Option AV × St → Option R) : Option R :=
  iteO (edgesOk ops && P.follows .mixedOrders) (dGoK P cfg ic nt ops ops.toList st.fr st.H [] fun x => iteO (orderOk x.1 (preL ops)) (K (none, ⟨x.2.1, x.2.2⟩)) none) none
theorem drK_eq (P : Program) (cfg : Cfg) (ic : Ic) (nt : Nat) (ops : Array Oper) (st : St) (K : Option AV × St → Option R) : drK P cfg ic nt ops st K = (drRun P cfg ic nt ops st).bind K := by
  unfold drK drRun
  have e := fun K => dGoK_eq (R := R) P cfg ic nt ops K ops.size 0 st.fr st.H [] (by omega)
  simp only [List.drop_zero] at e
  simp only [iteO_eq, e]
  split
  · rw [Option.bind_assoc]
    congr 1; funext x
    split <;> rfl
  · rfl

/-- Loops: where they stand, and the state ahead of them. -/
abbrev LP := Code → St → Option (Fx × St)

def selS (x : Fx) (A : St → (Fx × St → Option R) → Option R) : St → (Fx × St → Option R) → Option R := match x with
  | .norm => A
  | x => fun st K => K (x, st)
def blkF (id : Nat) (x : Fx) : Fx := match x with
  | .exit i => if i = id then .norm else .exit i
  | x => x
/-- A code's parts, laid open by the recursor itself (so that the elaborator and the kernel come to the same text). -/
noncomputable def codeK (P : Program) (cfg : Cfg) (ic : Ic) (lp : LP) (nt : Nat) (c : Code) : St → (Fx × St → Option R) → Option R :=
  Code.rec (motive := fun _ => St → (Fx × St → Option R) → Option R)
    (skip := fun st K => K (.norm, st))
    (region := fun _ ops d st K => match d with
      | true => drK P cfg ic nt ops st fun r => K (opFx r.1, r.2)
      | false => opsK P cfg ic nt ops ops.toList st fun r => K (opFx r.1, r.2))
    (seq := fun _ _ iha ihb st K => iha st fun r => selS r.1 ihb r.2 K)
    (cond := fun c _ _ iha ihb st K => match evA st.fr c with
      | .d (.bool t) => iteK t (iha st K) (ihb st K)
      | _ => none)
    (block := fun id _ ih st K => ih st fun r => K (blkF id r.1, r.2))
    (loop := fun b _ st K => nextK (lp b st) K)
    (scope := fun _ ih st K => ih st K)
    (label := fun _ st K => K (.norm, st))
    (exit := fun id st K => K (.exit id, st))
    (ret := fun st K => K (.ret, st))
    (goto := fun _ _ _ => none) (refuse := fun _ _ _ => none) (rangeFunc := fun _ _ _ _ _ _ _ _ => none) c

/-- Loops as they are. -/
def lpOf (P : Program) (cfg : Cfg) (ic : Ic) (nt f lf : Nat) (pins : List Nm) : LP := fun b st => (loopN (fun st => (prune pins (cfg.keep f ((keyOf b).getD 0)) st).bind (runCode P cfg ic nt f lf pins b)) lf st).bind (exitP pins (cfg.keepX f ((keyOf b).getD 0)))

theorem codeK_eq (P : Program) (cfg : Cfg) (ic : Ic) (nt f lf : Nat) (pins : List Nm) : ∀ (c : Code) (st : St) (K : Fx × St → Option R), codeK P cfg ic (lpOf P cfg ic nt f lf pins) nt c st K = (runCode P cfg ic nt f lf pins c st).bind K
  | .skip, st, K => rfl
  | .label _, st, K => rfl
  | .exit _, st, K => rfl
  | .ret, st, K => rfl
  | .goto _, st, K => rfl
  | .refuse _, st, K => rfl
  | .rangeFunc _ _ _ _, st, K => rfl
  | .region _ ops d, st, K => by
    cases d with
    | true =>
      show drK P cfg ic nt _ st (fun r => K (opFx r.1, r.2)) = _
      simp only [runCode, drK_eq, if_true, Option.bind_map]; rfl
    | false =>
      show opsK P cfg ic nt _ _ st (fun r => K (opFx r.1, r.2)) = _
      simp only [runCode, opsK_eq, Bool.false_eq_true, if_false, runOps_all, Option.bind_map]; rfl
  | .seq a b, st, K => by
    show codeK P cfg ic _ nt a st (fun r => selS r.1 (codeK P cfg ic _ nt b) r.2 K) = _
    simp only [runCode]
    rw [codeK_eq P cfg ic nt f lf pins a, Option.bind_assoc]
    congr 1; funext r
    obtain ⟨x, s⟩ := r
    cases x with
    | norm => exact codeK_eq P cfg ic nt f lf pins b s K
    | _ => rfl
  | .cond c a b, st, K => by
    show (match evA st.fr c with | .d (.bool t) => iteK t (codeK P cfg ic _ nt a st K) (codeK P cfg ic _ nt b st K) | _ => none) = _
    simp only [runCode]
    cases evA st.fr c with
    | d x =>
      cases x with
      | bool t =>
        cases t with
        | true => simp only [iteK_true, if_true]; exact codeK_eq P cfg ic nt f lf pins a st K
        | false => simp only [iteK_false, Bool.false_eq_true, if_false]; exact codeK_eq P cfg ic nt f lf pins b st K
      | _ => rfl
    | _ => rfl
  | .block id b, st, K => by
    show codeK P cfg ic _ nt b st (fun r => K (blkF id r.1, r.2)) = _
    simp only [runCode]
    rw [codeK_eq P cfg ic nt f lf pins b, Option.bind_map]
    congr 1; funext r
    obtain ⟨fx, s⟩ := r
    cases fx with
    | exit i =>
      simp only [Function.comp, blkF]
      split <;> rfl
    | _ => rfl
  | .loop b, st, K => by
    show nextK (lpOf P cfg ic nt f lf pins b st) K = _
    simp only [runCode, nextK_eq, lpOf]
  | .scope b, st, K => by
    show codeK P cfg ic _ nt b st K = _
    simp only [runCode]
    exact codeK_eq P cfg ic nt f lf pins b st K
end

/-- A function's call, laid open. -/
noncomputable def bodyK (P : Program) (cfg : Cfg) (ic : Ic) (lp : LP) (f : FuncId) (fn : Func) (args : List AV) (H : Hp) : Option (Res × Hp) :=
  match fn.body with
  | none => none
  | some c => if args.length ≤ fn.ntmps then codeK P cfg ic lp fn.ntmps c ⟨frOf 0 args, H⟩ (finish P (cfg.ownR f) fn (H.map (·.1))) else none
theorem ixL_at' {es : List (List D)} {y : List D} {n s : Nat} {z : Int} (hz : z = (n : Int)) (h : es[n]? = some y) (hs : y.length = s) : ixL es z s = some (.rptr y 0) := by subst hz; exact ixL_at h hs
theorem icall_body {P : Program} {cfg : Cfg} {k : Nat} {f : FuncId} {fn : Func} {args : List AV} {H : Hp} (hx : cfg.ext f = none) (hf : P.funcs[f]? = some fn) :
    icall P cfg (k + 1) f args H = bodyK P cfg (icall P cfg k) (lpOf P cfg (icall P cfg k) fn.ntmps f k (H.map (·.1))) f fn args H := by
  simp only [icall, hx, hf, Option.bind_some, bodyK]
  cases fn.body with
  | none => rfl
  | some c =>
    simp only [Option.bind_some]
    split
    · rw [codeK_eq]
    · rfl
theorem aop_ix {P : Program} {dst : Nat} {ρ : Operand → AV} {H : Hp} {t e : TypeId} {x i : Operand} {es : List (List D)} {k : IntKind} {z : Int} {s : Nat} {r : AV} (hx : ρ x = .d (.list es)) (hi : ρ i = .d (.int k z)) (ht : P.underlying t = some (.slice e)) (hs : sizeT P e = some s) (h : ixL es z s = some r) :
    aop P dst ρ H (.indexAddr t x i) = some (r, H) := by
  simp only [aop, aIndexAddr, hx, hi, ht, hs, Option.bind_some, h, Option.map_some]
theorem aop_ixS {P : Program} {dst : Nat} {ρ : Operand → AV} {H : Hp} {t : TypeId} {x i : Operand} {s : List UInt8} {k : IntKind} {z : Int} {r : AV} (hx : ρ x = .d (.str s)) (hi : ρ i = .d (.int k z)) (ht : P.underlying t = some .string) (h : ixS s z = some r) :
    aop P dst ρ H (.index t x i) = some (r, H) := by
  simp only [aop, aIndex, hx, hi, ht, h, Option.map_some]

theorem fin_d (own : Bool) (H : Hp) (x : D) : finR [] own H (.d x) = some (.d x, []) := by cases own <;> rfl

/-- A call, step by step. -/
theorem callA_of {cfg : Cfg} {ic : Ic} {dst : Nat} {f : FuncId} {args args1 args2 : List AV} {H H1 H2 Hr Hout : Hp} {g b : Gm} {r res : Res} (h : ic f args2 H2 = some (r, Hr)) (h0 : sealArgs (cfg.ownA f) 0 H args = (args1, H1)) (h1 : gArgs H1 args1 = g) (h2 : g.ok = true)
    (h3 : renL g H1 args1 = args2) (h4 : renHp g H1 g = H2) (h5 : gBack g dst H1 Hr = b) (h6 : backOk g b H1 Hr = true) (h7 : mapRes (ren b Hr) r = res) (h8 : renHp b Hr b ++ dropP g H1 = Hout) : callA cfg ic dst f args H = some (res, Hout) := by
  unfold callA
  simp only [h0, h1, h2, h3, h4, h, h5, h6, h7, h8, if_true, Option.bind_some]

/-- A function's loop, by its key. -/
def findLoop (k : Nat) : Code → Option Code
  | .loop b => if keyOf b = some k then some b else findLoop k b
  | .seq a b => match findLoop k a with
    | some c => some c
    | none => findLoop k b
  | .cond _ a b => match findLoop k a with
    | some c => some c
    | none => findLoop k b
  | .block _ b => findLoop k b
  | .scope b => findLoop k b
  | _ => none
def bodyAt (fn : Func) (k : Nat) : Code := (fn.body.bind (findLoop k)).getD .skip

/-- A loop, and what comes behind it. -/
noncomputable def loopK {R : Type} (P : Program) (cfg : Cfg) (ic : Ic) (lp : LP) (nt f : Nat) (pins : List Nm) (b : Code) : Nat → St → (Fx × St → Option R) → Option R
  | 0, _, _ => none
  | n + 1, st, K => nextK (prune pins (cfg.keep f ((keyOf b).getD 0)) st) fun s => codeK P cfg ic lp nt b s fun r => match r.1 with
    | .norm => loopK P cfg ic lp nt f pins b n r.2 K
    | _ => K r
theorem loopK_eq {R : Type} {P : Program} {cfg : Cfg} {ic : Ic} {nt f lf : Nat} {pins : List Nm} {b : Code} (K : Fx × St → Option R) : ∀ (n : Nat) (st : St),
    loopK P cfg ic (lpOf P cfg ic nt f lf pins) nt f pins b n st K = (loopN (fun st => (prune pins (cfg.keep f ((keyOf b).getD 0)) st).bind (runCode P cfg ic nt f lf pins b)) n st).bind K
  | 0, st => rfl
  | n + 1, st => by
    simp only [loopK, loopN, nextK_eq, codeK_eq, Option.bind_assoc]
    congr 1; funext s
    congr 1; funext r
    obtain ⟨fx, s'⟩ := r
    cases fx <;> first | exact loopK_eq K n s' | rfl
theorem loop_go {R : Type} {P : Program} {cfg : Cfg} {ic : Ic} {nt f lf : Nat} {pins : List Nm} {b : Code} {st : St} {K : Fx × St → Option R} {r : Option R} {lp : LP} (hl : lp = lpOf P cfg ic nt f lf pins)
    (h : loopK P cfg ic lp nt f pins b lf st (fun r => nextK (exitP pins (cfg.keepX f ((keyOf b).getD 0)) r) K) = r) : nextK (lp b st) K = r := by
  subst hl
  rw [← h, loopK_eq, nextK_eq]
  simp only [lpOf, nextK_eq, Option.bind_assoc]
/-- A loop's end, as it is seen behind it. -/
theorem loop_at {P : Program} {cfg : Cfg} {ic : Ic} {nt f lf : Nat} {pins : List Nm} {b : Code} {st : St} {r : Option (Fx × St)} {lp : LP} (hl : lp = lpOf P cfg ic nt f lf pins)
    (h : loopK P cfg ic lp nt f pins b lf st (exitP pins (cfg.keepX f ((keyOf b).getD 0))) = r) : lp b st = r := by
  subst hl
  rw [← h, loopK_eq]; rfl
theorem loop_step {R : Type} {P : Program} {cfg : Cfg} {ic : Ic} {nt f n : Nat} {pins : List Nm} {b : Code} {st s : St} {K : Fx × St → Option R} {r : Option R} {lp : LP} (hp : prune pins (cfg.keep f ((keyOf b).getD 0)) st = some s)
    (h : codeK P cfg ic lp nt b s (fun r => match r.1 with | .norm => loopK P cfg ic lp nt f pins b n r.2 K | _ => K r) = r) : loopK P cfg ic lp nt f pins b (n + 1) st K = r := by
  simp only [loopK, hp, nextK]; exact h
theorem nextK_of {R α : Type} {x : Option α} {a : α} {K : α → Option R} {r : Option R} (h : x = some a) (h1 : K a = r) : nextK x K = r := by subst h; exact h1

end Go.Rx
