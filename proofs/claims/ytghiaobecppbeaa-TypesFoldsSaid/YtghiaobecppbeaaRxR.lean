/- Rx, part 18: regions whose order is drawn, in whatever order. -/
import Derived.Test.YtghiaobecppbeaaRxQ
namespace Go.Rx
open Go Go.RowKit
set_option linter.unusedVariables false
set_option linter.unusedSimpArgs false

/-- One operation, no panic. -/
def opR (P : Program) (cfg : Cfg) (ic : Ic) (o : Oper) (fr : Fr) (H : Hp) : Option (AV × Hp) :=
  match o.op with
  | .call c => match c.callee with
    | .value fv => match evA fr fv with
      | .fn f caps => if plainF P f then (callA cfg ic (o.dst.getD 0) f (c.args.toList.map (evA fr) ++ caps) H).bind fun r => match r.1 with
          | .ret a => some (a, r.2)
          | .pan _ => none
        else none
      | _ => none
    | _ => aop P (o.dst.getD 0) (evA fr) H o.op
  | _ => aop P (o.dst.getD 0) (evA fr) H o.op

theorem opR_ok {P : Program} {cfg : Cfg} {ic : Ic} (hic : IcOk P ic) {E : En} {a : Act} {fr : Fr} {o : Oper} {r : AV} {H' : Hp} {next : Act → World → Prop} {Q : Exit → Act → World → Prop} (F : FrOk E a fr) (I : Inv E)
    (h : opR P cfg ic o fr E.H = some (r, H')) (hn : ∀ v E', RV E' v r → Inv E' → E'.H = H' → Step E E' → Fit E E' → next (a.put o.dst v) E'.w) : o.wp P a E.w next Q := by
  have viaAop : aop P (o.dst.getD 0) (evA fr) E.H o.op = some (r, H') → o.wp P a E.w next Q := fun h => by
    obtain ⟨v, E', nx, e1, e2, e3, e4, e5, e6, e7⟩ := aop_ok I F h
    unfold Oper.wp
    rw [e1]
    rcases e2 with rfl | ⟨rfl, rfl⟩
    · exact hn _ _ e3 e4 e5 e6 e7
    · exact hn _ _ e3 e4 e5 e6 e7
  unfold opR at h
  split at h
  · rename_i c ho
    split at h
    · rename_i fv hcal
      split at h
      · rename_i f caps hf
        split at h
        · rename_i hpl
          simp only [Option.bind_eq_some_iff] at h
          obtain ⟨⟨res, H1⟩, hr, h⟩ := h
          have hfv := F.eval fv
          rw [hf] at hfv
          generalize hfe : a.eval fv = fval at hfv
          cases hfv with
          | fn _ cs _ hl hcr =>
          have hargs : ArgsOk E (c.args.toList.map a.eval ++ cs) (c.args.toList.map (evA fr) ++ caps) := by
            refine ⟨by simp [hl], fun i v b hv hb => ?_⟩
            by_cases hi : i < c.args.toList.length
            · rw [List.getElem?_append_left (by simpa using hi), List.getElem?_map, Option.map_eq_some_iff] at hv hb
              obtain ⟨x, hx, rfl⟩ := hv
              obtain ⟨y, hy, rfl⟩ := hb
              rw [hx] at hy; injection hy with hy; subst hy
              exact F.eval x
            · rw [List.getElem?_append_right (by simp at hi ⊢; omega)] at hv hb
              simp only [List.length_map] at hv hb
              exact hcr _ v b hv hb
          have hcall := callA_ok (P := P) hic I hargs hr
          have hrun : (execOp a.eval o).run P E.w = .ok (.enter f (c.args.toList.map a.eval ++ cs).toArray) E.w := by
            unfold plainF at hpl
            cases hfn : P.funcs[f]? with
            | none => rw [hfn] at hpl; cases hpl
            | some fn =>
              rw [hfn] at hpl
              simp only [Bool.and_eq_true, Bool.not_eq_true'] at hpl
              have hb : fn.body.isNone = false := by cases hbb : fn.body with
                | none => rw [hbb] at hpl; simp at hpl
                | some x => rfl
              have hname : ¬ ((fn.name == "runtime.NumGoroutine") = true) := by rw [hpl.1]; simp
              have earr : (Array.map a.eval c.args ++ cs.toArray) = (c.args.toList.map a.eval ++ cs).toArray := by apply Array.ext'; simp
              unfold execOp
              simp only [ho, resolve, hcal, hfe, Deferred.ofValue, Sem.run_bind, Sem.run_pure, Result.andThen_ok, invoke, callFunc, run_program, hfn, hb, if_neg hname]
              simp [earr]
          unfold Oper.wp
          rw [hrun]
          simp only [Oper.upon_enter]
          refine hcall.mono ?_
          rintro e w' ⟨E', rfl, I', e', S', F', hres⟩
          cases res with
          | pan b => cases h
          | ret b =>
            injection h with h
            injection h with h1 h2
            subst h1 h2
            cases e with
            | returned v => exact hn v E' hres I' e' S' F'
            | panicked chain => exact hres.elim
            | outgrown => exact hres.elim
        · cases h
      · cases h
    · exact viaAop h
  · exact viaAop h

def tmpsOf (xs : Array Operand) : List Nat := xs.toList.filterMap fun | .tmp t => some t | _ => none
def gSlot (ops : Array Oper) (o : Oper) : List Nat :=
  match o.guard with
  | none => []
  | some (j, _) => ((ops[j]?).bind (·.dst)).toList

theorem wantedA_congr {ops : Array Oper} {fr fr' : Fr} {o : Oper} (h : ∀ t ∈ gSlot ops o, fr.get t = fr'.get t) : wantedA ops fr o = wantedA ops fr' o := by
  unfold wantedA
  unfold gSlot at h
  cases hg : o.guard with
  | none => rfl
  | some g =>
    obtain ⟨j, want⟩ := g
    rw [hg] at h
    simp only [] at h ⊢
    cases hd : (ops[j]?).bind (·.dst) with
    | none => rfl
    | some t =>
      rw [hd] at h
      simp only []
      rw [h t (by simp)]

def quietK : Op → Bool
  | .move _ | .assign _ | .pick .. | .build .. | .load .. | .nilCheck _ | .binOp .. | .unOp .. | .convert .. | .fieldAddr .. | .field .. | .indexAddr .. | .index .. | .extract .. | .makeFunc .. | .makeInterface .. => true
  | .call c => match c.callee with
    | .builtin .len => true
    | _ => false
  | _ => false

theorem quiet_H {P : Program} {cfg : Cfg} {ic : Ic} {o : Oper} {fr : Fr} {H H' : Hp} {r : AV} (hq : quietK o.op = true) (h : opR P cfg ic o fr H = some (r, H')) : H' = H := by
  have m : ∀ (x : Option AV), x.map (fun r => (r, H)) = some (r, H') → H' = H := fun x hx => by
    rw [Option.map_eq_some_iff] at hx; obtain ⟨y, _, hy⟩ := hx; injection hy with _ hy; exact hy.symm
  unfold opR at h
  cases ho : o.op <;> rw [ho] at h hq <;> simp only [quietK] at hq <;> first
    | cases hq
    | skip
  case call c =>
    simp only [] at h
    split at hq
    · rename_i hc
      simp only [hc, aop] at h
      split at h
      · exact m _ h
      · rename_i h1 h2 h3; cases h1
      · rename_i h1 h2 h3; cases h1
      · rename_i h1 h2 h3; cases h1
      · cases h
    · cases hq
  case pick c x y =>
    simp only [aop] at h
    split at h
    · injection h with h; injection h with _ h; exact h.symm
    · cases h
  case makeFunc fn first caps =>
    cases fn <;> simp only [aop] at h <;> first
      | (split at h
         · injection h with h; injection h with _ h; exact h.symm
         · cases h)
      | cases h
  case makeInterface t x =>
    simp only [aop] at h
    split at h
    · cases h
    · injection h with h; injection h with _ h; exact h.symm
  all_goals first
    | (simp only [aop] at h; exact m _ h)
    | (simp only [aop] at h; injection h with h; injection h with _ h; exact h.symm)

structure Rec where
  dst : Option Tmp
  r : AV
  rs : List Nat
  nm : List Nm
  tw : List Nm
  K' : Hp

def closedK (K : Hp) : Bool := K.all fun x => match x.2 with
  | .cells cs => (hdlL cs).all fun p => (K.get p).isSome
  | _ => true
def restr (H : Hp) (nm : List Nm) : Hp := nm.filterMap fun o => (H.get o).map fun x => (o, x)

def twOf (o : Oper) (H' : Hp) : List Nm := if quietK o.op then [] else H'.map (·.1)
def hpOf (o : Oper) (H H' : Hp) : Hp := if quietK o.op then H else H' ++ H

def mvOf : Op → Option Operand
  | .move x => some x
  | .assign x => some x
  | _ => none
theorem mv_run {P : Program} {o : Oper} {x : Operand} {a : Act} {w : World} (h : mvOf o.op = some x) : (execOp a.eval o).run P w = .ok (.value (a.eval x)) w := by
  unfold mvOf at h
  split at h <;> first
    | (rename_i y ho; injection h with h; subst h; simp [execOp, ho])
    | cases h
def dStep (P : Program) (cfg : Cfg) (ic : Ic) (nt : Nat) (ops : Array Oper) (j : Nat) (fr : Fr) (H : Hp) : Option (Rec × Fr × Hp) :=
  (ops[j]?).bind fun o => match wantedA ops fr o with
    | none => none
    | some false => (putF nt o.dst (.tuple []) fr H).map fun st => (⟨o.dst, .tuple [], gSlot ops o, [], [], []⟩, st.fr, H)
    | some true =>
      let sl := tmpsOf o.op.operands
      match mvOf o.op with
      | some x => (putF nt o.dst (evA (sl.map fun t => (t, fr.get t)) x) fr H).map fun st => (⟨o.dst, evA (sl.map fun t => (t, fr.get t)) x, sl ++ gSlot ops o, [], [], []⟩, st.fr, H)
      | none =>
      let hs := sl.flatMap fun t => hdlV (fr.get t)
      let nm := reach H 200 hs []
      let K := restr H nm
      if closedK K && hs.all (fun p => (K.get p).isSome) then
        (opR P cfg ic o (sl.map fun t => (t, fr.get t)) K).bind fun x =>
          if (twOf o x.2).all (fun p => (K.get p).isSome || (H.get p).isNone) then
            (putF nt o.dst x.1 fr (hpOf o H x.2)).map fun st => (⟨o.dst, x.1, sl ++ gSlot ops o, nm, twOf o x.2, x.2⟩, st.fr, st.H)
          else none
      else none

def preL (ops : Array Oper) : List (List Nat) :=
  ops.toList.foldl (fun acc o => acc ++ [o.after.toList.flatMap fun e => if Region.binds .any e then e.on :: (acc[e.on]?).getD [] else []]) []

def conf (a b : Rec) : Bool :=
  (match a.dst with | some d => b.rs.contains d || decide (b.dst = some d) | none => false) || (match b.dst with | some d => a.rs.contains d | none => false) ||
  a.tw.any (fun o => b.nm.contains o || b.tw.contains o) || b.tw.any (fun o => a.nm.contains o)

def orderOk (recs : List Rec) (pre : List (List Nat)) : Bool :=
  (List.range recs.length).all fun j => (List.range j).all fun i => match recs[i]?, recs[j]? with
    | some a, some b => !conf a b || ((pre[j]?).getD []).contains i
    | _, _ => true

def dGo (P : Program) (cfg : Cfg) (ic : Ic) (nt : Nat) (ops : Array Oper) : Nat → Nat → Fr → Hp → List Rec → Option (List Rec × Fr × Hp)
  | 0, _, fr, H, acc => some (acc, fr, H)
  | n + 1, j, fr, H, acc => (dStep P cfg ic nt ops j fr H).bind fun x => dGo P cfg ic nt ops n (j + 1) x.2.1 x.2.2 (acc ++ [x.1])

def Wt (recs : List Rec) (k t : Nat) : Option AV :=
  match recs[k]? with
  | some ρ => if ρ.dst = some t then some ρ.r else none
  | none => none
def Wo (recs : List Rec) (k : Nat) (o : Nm) : Option (Option AObj) :=
  match recs[k]? with
  | some ρ => if ρ.tw.contains o then some (ρ.K'.get o) else none
  | none => none

theorem valD_W {α β : Type} {W W' : Nat → α → Option β} {base : α → β} {D : Nat → Bool} {l : α} : ∀ n, (∀ k, k < n → W k l = W' k l) → valD W base D n l = valD W' base D n l
  | 0, _ => rfl
  | n + 1, h => by
    simp only [valD]
    rw [valD_W n (fun k hk => h k (by omega)), h n (by omega)]

theorem putF_get {nt : Nat} {dst : Option Tmp} {v : AV} {fr : Fr} {H : Hp} {st : St} (h : putF nt dst v fr H = some st) : st.H = H ∧ (∀ d, dst = some d → d < nt) ∧ ∀ t, st.fr.get t = if dst = some t then v else fr.get t := by
  cases dst with
  | none => injection h with h; subst h; exact ⟨rfl, (fun d hd => by cases hd), fun t => by simp⟩
  | some d =>
    simp only [putF] at h
    split at h
    · rename_i hlt
      injection h with h; subst h
      refine ⟨rfl, (fun d' hd => by injection hd with hd; subst hd; exact hlt), fun t => ?_⟩
      simp only [Fr.get_cons]
      by_cases hdt : d = t
      · subst hdt; simp
      · rw [if_neg hdt, if_neg (by intro h; injection h with h; exact hdt h)]
    · cases h

/-- What a step of the trace turned. -/
theorem dStep_turn {P : Program} {cfg : Cfg} {ic : Ic} {nt : Nat} {ops : Array Oper} {j : Nat} {fr fr' : Fr} {H H' : Hp} {ρ : Rec} (h : dStep P cfg ic nt ops j fr H = some (ρ, fr', H')) :
    (∀ t, fr'.get t = if ρ.dst = some t then ρ.r else fr.get t) ∧ ∀ o, H'.get o = if ρ.tw.contains o then ρ.K'.get o else H.get o := by
  unfold dStep at h
  simp only [Option.bind_eq_some_iff] at h
  obtain ⟨op, hop, h⟩ := h
  split at h
  · cases h
  · rw [Option.map_eq_some_iff] at h
    obtain ⟨st, hst, h⟩ := h
    injection h with h1 h2
    injection h2 with h2 h3
    subst h1 h2 h3
    exact ⟨(putF_get hst).2.2, fun o => by simp⟩
  · split at h
    · rw [Option.map_eq_some_iff] at h
      obtain ⟨st, hst, h⟩ := h
      injection h with h1 h2
      injection h2 with h2 h3
      subst h1 h2 h3
      exact ⟨(putF_get hst).2.2, fun o => by simp⟩
    split at h
    · simp only [Option.bind_eq_some_iff] at h
      obtain ⟨x, hx, h⟩ := h
      split at h
      · rw [Option.map_eq_some_iff] at h
        obtain ⟨st, hst, h⟩ := h
        injection h with h1 h2
        injection h2 with h2 h3
        subst h1 h2 h3
        obtain ⟨g1, g2, g3⟩ := putF_get hst
        refine ⟨g3, fun o => ?_⟩
        rw [g1]
        simp only [twOf, hpOf]
        by_cases hq : quietK op.op = true
        · simp only [hq, if_true]; simp
        · simp only [hq]
          simp only [Bool.false_eq_true, if_false]
          rw [Hp.get_append]
          cases hg : x.2.get o with
          | some y =>
            have := Hp.get_name' hg
            rw [if_pos (by simpa using this)]
          | none =>
            by_cases hm : (List.map (fun x => x.1) x.2).contains o = true
            · exact (Hp.name_get' (H := x.2) (o := o) (by simpa using hm) hg).elim
            · rw [if_neg hm]
      · cases h
    · cases h

def lt' (j : Nat) : Nat → Bool := fun k => decide (k < j)

/-- The trace, and what stands at each of its places. -/
theorem trace {P : Program} {cfg : Cfg} {ic : Ic} {nt : Nat} {ops : Array Oper} {fr0 : Fr} {H0 : Hp} : ∀ (n j : Nat) (fr : Fr) (H : Hp) (acc recs : List Rec) (fr' : Fr) (H' : Hp), dGo P cfg ic nt ops n j fr H acc = some (recs, fr', H') → acc.length = j →
    (∀ t, fr.get t = valD (Wt acc) fr0.get (fun _ => true) j t) → (∀ o, H.get o = valD (Wo acc) H0.get (fun _ => true) j o) →
    (∀ i, i < j → ∃ fri Hi ρ x, acc[i]? = some ρ ∧ dStep P cfg ic nt ops i fri Hi = some (ρ, x) ∧ (∀ t, fri.get t = valD (Wt acc) fr0.get (lt' i) j t) ∧ ∀ o, Hi.get o = valD (Wo acc) H0.get (lt' i) j o) →
    recs.length = j + n ∧ (∀ t, fr'.get t = valD (Wt recs) fr0.get (fun _ => true) (j + n) t) ∧ (∀ o, H'.get o = valD (Wo recs) H0.get (fun _ => true) (j + n) o) ∧
    (∀ i, i < j + n → ∃ fri Hi ρ x, recs[i]? = some ρ ∧ dStep P cfg ic nt ops i fri Hi = some (ρ, x) ∧ (∀ t, fri.get t = valD (Wt recs) fr0.get (lt' i) (j + n) t) ∧ ∀ o, Hi.get o = valD (Wo recs) H0.get (lt' i) (j + n) o)
  | 0, j, fr, H, acc, recs, fr', H', h, hl, hf, hH, hall => by
    injection h with h
    injection h with h1 h2
    injection h2 with h2 h3
    subst h1 h2 h3
    exact ⟨hl, hf, hH, hall⟩
  | n + 1, j, fr, H, acc, recs, fr', H', h, hl, hf, hH, hall => by
    simp only [dGo, Option.bind_eq_some_iff] at h
    obtain ⟨⟨ρ, fr1, H1⟩, hst, h⟩ := h
    obtain ⟨turn1, turn2⟩ := dStep_turn hst
    have hlast : (acc ++ [ρ])[j]? = some ρ := by rw [List.getElem?_append_right (by omega)]; simp [hl]
    have hold : ∀ k, k < j → (acc ++ [ρ])[k]? = acc[k]? := fun k hk => List.getElem?_append_left (by omega)
    have wt : ∀ k t, k < j → Wt (acc ++ [ρ]) k t = Wt acc k t := fun k t hk => by simp only [Wt, hold k hk]
    have wo : ∀ k o, k < j → Wo (acc ++ [ρ]) k o = Wo acc k o := fun k o hk => by simp only [Wo, hold k hk]
    have key := trace (fr0 := fr0) (H0 := H0) n (j + 1) fr1 H1 (acc ++ [ρ]) recs fr' H' h (by simp [hl])
      (fun t => by
        rw [turn1]
        simp only [valD, Wt, hlast]
        by_cases hd : ρ.dst = some t
        · simp only [if_pos hd]
        · simp only [if_neg hd]
          rw [hf t]
          exact valD_W j (fun k hk => (wt k t hk).symm))
      (fun o => by
        rw [turn2]
        simp only [valD, Wo, hlast]
        by_cases hd : ρ.tw.contains o = true
        · simp only [if_pos hd]
        · simp only [if_neg hd]
          rw [hH o]
          exact valD_W j (fun k hk => (wo k o hk).symm))
      (fun i hi => by
        by_cases hij : i = j
        · subst hij
          refine ⟨fr, H, ρ, _, hlast, hst, fun t => ?_, fun o => ?_⟩
          · rw [hf t]
            simp only [valD, lt', Nat.lt_irrefl, decide_false]
            rw [valD_W (W := Wt (acc ++ [ρ])) (W' := Wt acc) i (fun k hk => wt k t hk)]
            exact valD_congr _ _ i (fun k hk _ => by simp [lt', hk])
          · rw [hH o]
            simp only [valD, lt', Nat.lt_irrefl, decide_false]
            rw [valD_W (W := Wo (acc ++ [ρ])) (W' := Wo acc) i (fun k hk => wo k o hk)]
            exact valD_congr _ _ i (fun k hk _ => by simp [lt', hk])
        · obtain ⟨fri, Hi, ρi, x, a1, a2, a3, a4⟩ := hall i (by omega)
          refine ⟨fri, Hi, ρi, x, by rw [hold i (by omega)]; exact a1, a2, fun t => ?_, fun o => ?_⟩
          · rw [a3 t]
            have hji : ¬ (j < i) := by omega
            simp only [valD, lt', hji, decide_false]
            exact (valD_W j (fun k hk => wt k t hk)).symm
          · rw [a4 o]
            have hji : ¬ (j < i) := by omega
            simp only [valD, lt', hji, decide_false]
            exact (valD_W j (fun k hk => wo k o hk)).symm)
    rw [show j + (n + 1) = j + 1 + n by omega]
    exact key

theorem preL_spec (ops : Array Oper) : (preL ops).length = ops.size ∧ ∀ (j : Nat) (o : Oper), ops[j]? = some o → (preL ops)[j]? = some (o.after.toList.flatMap fun e => if Region.binds .any e then e.on :: (((preL ops).take j)[e.on]?).getD [] else []) := by
  have key : ∀ (l : List Oper) (acc : List (List Nat)), ∃ r : List (List Nat), l.foldl (fun (acc : List (List Nat)) (o : Oper) => acc ++ [o.after.toList.flatMap fun e => if Region.binds .any e then e.on :: (acc[e.on]?).getD [] else []]) acc = acc ++ r ∧ r.length = l.length ∧
      ∀ (i : Nat) (o : Oper), l[i]? = some o → r[i]? = some (o.after.toList.flatMap fun e => if Region.binds .any e then e.on :: (((acc ++ r).take (acc.length + i))[e.on]?).getD [] else []) := fun l => by
    induction l with
    | nil => intro acc; exact ⟨[], by simp, rfl, fun i o h => by simp at h⟩
    | cons x l ih =>
      intro acc
      obtain ⟨r, h1, h2, h3⟩ := ih (acc ++ [x.after.toList.flatMap fun e => if Region.binds .any e then e.on :: (acc[e.on]?).getD [] else []])
      refine ⟨(x.after.toList.flatMap fun e => if Region.binds .any e then e.on :: (acc[e.on]?).getD [] else []) :: r, ?_, by simp [h2], fun i o ho => ?_⟩
      · rw [List.foldl_cons, h1]; simp
      · cases i with
        | zero =>
          simp at ho
          subst ho
          simp only [List.getElem?_cons_zero, Nat.add_zero, List.take_left']
        | succ i =>
          have := h3 i o (by simpa using ho)
          rw [List.getElem?_cons_succ, this]
          simp only [List.append_assoc, List.singleton_append, List.length_append, List.length_singleton]
          rw [show acc.length + 1 + i = acc.length + (i + 1) by omega]
  obtain ⟨r, h1, h2, h3⟩ := key ops.toList []
  have e : preL ops = r := by unfold preL; rw [h1]; simp
  rw [e]
  refine ⟨by simpa using h2, fun j o ho => ?_⟩
  have := h3 j o (by simpa using ho)
  simpa using this

/-- Done with all that they wait for. -/
def Cl (ops : Array Oper) (D : Nat → Bool) : Prop := ∀ i e, D i = true → e ∈ ((preL ops)[i]?).getD [] → D e = true

theorem cl_ready {ops : Array Oper} {D : Nat → Bool} (h : Cl ops D) {j : Nat} {o : Oper} (ho : ops[j]? = some o) (hr : ∀ e ∈ o.after, Region.binds .any e = true → D e.on = true) : ∀ e ∈ ((preL ops)[j]?).getD [], D e = true := fun e he => by
  rw [(preL_spec ops).2 j o ho] at he
  simp only [Option.getD_some, List.mem_flatMap] at he
  obtain ⟨ed, hed, he⟩ := he
  split at he
  · rename_i hb
    have hd := hr ed (by simpa using hed) hb
    rcases List.mem_cons.1 he with rfl | he
    · exact hd
    · refine h ed.on e hd ?_
      rw [List.getElem?_take] at he
      split at he
      · exact he
      · simp at he
  · simp at he

/-- The state in which D has been done. -/
structure AtD (ops : Array Oper) (recs : List Rec) (fr0 : Fr) (H0 : Hp) (nt : Nat) (D : Nat → Bool) (E : En) (a : Act) : Prop where
  fr : ∀ t, RV E (a.tmps.getD t undef) (valD (Wt recs) fr0.get D ops.size t)
  H : ∀ o, E.H.get o = valD (Wo recs) H0.get D ops.size o
  sz : a.tmps.size = nt
  df : a.defers = []
  I : Inv E
  cl : Cl ops D

theorem restr_get (H : Hp) (nm : List Nm) (o : Nm) (x : AObj) (h : (restr H nm).get o = some x) : H.get o = some x ∧ o ∈ nm := by
  have := Hp.get_mem' h
  simp only [restr, List.mem_filterMap, Option.map_eq_some_iff] at this
  obtain ⟨p, hp, y, hy, he⟩ := this
  injection he with h1 h2
  subst h1 h2
  exact ⟨hy, hp⟩

theorem conf_l {a b : Rec} (h : conf a b = false) : (∀ d, a.dst = some d → b.rs.contains d = false ∧ b.dst ≠ some d) ∧ (∀ d, b.dst = some d → a.rs.contains d = false) ∧ (∀ o, a.tw.contains o = true → b.nm.contains o = false ∧ b.tw.contains o = false) ∧ (∀ o, b.tw.contains o = true → a.nm.contains o = false) := by
  simp only [conf, Bool.or_eq_false_iff, List.any_eq_false] at h
  obtain ⟨⟨⟨h1, h2⟩, h3⟩, h4⟩ := h
  refine ⟨fun d hd => ?_, fun d hd => ?_, fun o ho => ?_, fun o ho => ?_⟩
  · rw [hd] at h1
    simp only [Bool.or_eq_false_iff, decide_eq_false_iff_not] at h1
    exact h1
  · rw [hd] at h2; exact h2
  · have := h3 o (by simpa using ho)
    simp only [Bool.or_eq_true, not_or, Bool.not_eq_true] at this
    exact this
  · have := h4 o (by simpa using ho)
    simpa using this

theorem at_step {P : Program} {cfg : Cfg} {ic : Ic} (hic : IcOk P ic) {nt : Nat} {ops : Array Oper} {recs : List Rec} {fr0 : Fr} {H0 : Hp} (hlen : recs.length = ops.size) (hord : orderOk recs (preL ops) = true)
    (hst : ∀ i, i < ops.size → ∃ fri Hi ρ x, recs[i]? = some ρ ∧ dStep P cfg ic nt ops i fri Hi = some (ρ, x) ∧ (∀ t, fri.get t = valD (Wt recs) fr0.get (lt' i) ops.size t) ∧ ∀ o, Hi.get o = valD (Wo recs) H0.get (lt' i) ops.size o)
    {D : Nat → Bool} {E : En} {a : Act} (A : AtD ops recs fr0 H0 nt D E a) {j : Nat} {o : Oper} (ho : ops[j]? = some o) (hj : D j = false) (hr : ∀ e ∈ o.after, Region.binds .any e = true → D e.on = true)
    {Q : Exit → Act → World → Prop} {K : Act → World → Prop} (hK : ∀ E' a', AtD ops recs fr0 H0 nt (fun k => D k || k == j) E' a' → Step E E' → Fit E E' → K a' E'.w) : wpOp P ops Q j K a E.w := by
  have hjn : j < ops.size := (Array.getElem?_eq_some_iff.1 ho).1
  obtain ⟨frj, Hj, ρ, x, hρ, hds, hfr, hH⟩ := hst j hjn
  have hpre := cl_ready A.cl ho hr
  -- who conflicts is ordered
  have before : ∀ i ρi, recs[i]? = some ρi → i < j → conf ρi ρ = true → D i = true := fun i ρi hi hij hc => by
    simp only [orderOk, List.all_eq_true, List.mem_range] at hord
    have := hord j (by omega) i hij
    rw [hi, hρ] at this
    simp only [hc, Bool.not_true, Bool.false_or] at this
    exact hpre i (by simpa using this)
  have behind : ∀ i ρi, recs[i]? = some ρi → j < i → conf ρ ρi = true → D i = false := fun i ρi hi hij hc => by
    have hin : i < recs.length := (List.getElem?_eq_some_iff.1 hi).1
    simp only [orderOk, List.all_eq_true, List.mem_range] at hord
    have := hord i hin j hij
    rw [hi, hρ] at this
    simp only [hc, Bool.not_true, Bool.false_or] at this
    cases hD : D i with
    | false => rfl
    | true =>
      have := A.cl i j hD (by simpa using this)
      rw [hj] at this; cases this
  have slotEq : ∀ t, (ρ.rs.contains t = true ∨ ρ.dst = some t) → valD (Wt recs) fr0.get D ops.size t = frj.get t := fun t ht => by
    rw [hfr t]
    refine valD_congr _ _ ops.size (fun k hk hw => ?_)
    simp only [Wt] at hw
    cases hk' : recs[k]? with
    | none => rw [hk'] at hw; cases hw
    | some ρk =>
      rw [hk'] at hw
      simp only [] at hw
      split at hw
      · rename_i hd
        simp only [lt']
        rcases Nat.lt_trichotomy k j with h | h | h
        · rw [before k ρk hk' h (by
            cases hc : conf ρk ρ with
            | true => rfl
            | false =>
              obtain ⟨c1, c2, c3, c4⟩ := conf_l hc
              rcases ht with ht | ht
              · have := (c1 t hd).1; rw [ht] at this; cases this
              · exact absurd ht (c1 t hd).2)]
          simp [h]
        · subst h; rw [hj]; simp
        · rw [behind k ρk hk' h (by
            cases hc : conf ρ ρk with
            | true => rfl
            | false =>
              obtain ⟨c1, c2, c3, c4⟩ := conf_l hc
              rcases ht with ht | ht
              · have := c2 t hd; rw [ht] at this; cases this
              · exact absurd hd (c1 t ht).2)]
          simp; omega
      · cases hw
  have objEq : ∀ p, (ρ.nm.contains p = true ∨ ρ.tw.contains p = true) → valD (Wo recs) H0.get D ops.size p = Hj.get p := fun p hp => by
    rw [hH p]
    refine valD_congr _ _ ops.size (fun k hk hw => ?_)
    simp only [Wo] at hw
    cases hk' : recs[k]? with
    | none => rw [hk'] at hw; cases hw
    | some ρk =>
      rw [hk'] at hw
      simp only [] at hw
      split at hw
      · rename_i hd
        simp only [lt']
        rcases Nat.lt_trichotomy k j with h | h | h
        · rw [before k ρk hk' h (by
            cases hc : conf ρk ρ with
            | true => rfl
            | false =>
              obtain ⟨c1, c2, c3, c4⟩ := conf_l hc
              rcases hp with hp | hp
              · have := (c3 p hd).1; rw [hp] at this; cases this
              · have := (c3 p hd).2; rw [hp] at this; cases this)]
          simp [h]
        · subst h; rw [hj]; simp
        · rw [behind k ρk hk' h (by
            cases hc : conf ρ ρk with
            | true => rfl
            | false =>
              obtain ⟨c1, c2, c3, c4⟩ := conf_l hc
              rcases hp with hp | hp
              · have := c4 p hd; rw [hp] at this; cases this
              · have := (c3 p hp).2; rw [hd] at this; cases this)]
          simp; omega
      · cases hw
  -- what is done then
  have newCl : Cl ops (fun k => D k || k == j) := fun i e hi he => by
    simp only [Bool.or_eq_true, beq_iff_eq] at hi ⊢
    rcases hi with hi | hi
    · exact .inl (A.cl i e hi he)
    · subst hi; exact .inl (hpre e he)
  have newT : ∀ t, valD (Wt recs) fr0.get (fun k => D k || k == j) ops.size t = if ρ.dst = some t then ρ.r else valD (Wt recs) fr0.get D ops.size t := fun t => by
    split
    · rename_i hd
      refine valD_put _ _ (j := j) (by simp only [Wt, hρ, if_pos hd]) (by simp) ops.size hjn (fun k hk hjk hw => ?_)
      simp only [Wt] at hw
      cases hk' : recs[k]? with
      | none => rw [hk'] at hw; cases hw
      | some ρk =>
        rw [hk'] at hw
        simp only [] at hw
        split at hw
        · rename_i hdk
          have hb := behind k ρk hk' hjk (by
            cases hc : conf ρ ρk with
            | true => rfl
            | false => exact absurd hdk ((conf_l hc).1 t hd).2)
          simp [hb]; omega
        · cases hw
    · rename_i hd
      refine valD_congr _ _ ops.size (fun k hk hw => ?_)
      by_cases hkj : k = j
      · subst hkj; simp only [Wt, hρ, if_neg hd] at hw; cases hw
      · simp [hkj]
  have newO : ∀ p, valD (Wo recs) H0.get (fun k => D k || k == j) ops.size p = if ρ.tw.contains p = true then ρ.K'.get p else valD (Wo recs) H0.get D ops.size p := fun p => by
    split
    · rename_i hd
      refine valD_put _ _ (j := j) (by simp only [Wo, hρ, if_pos hd]) (by simp) ops.size hjn (fun k hk hjk hw => ?_)
      simp only [Wo] at hw
      cases hk' : recs[k]? with
      | none => rw [hk'] at hw; cases hw
      | some ρk =>
        rw [hk'] at hw
        simp only [] at hw
        split at hw
        · rename_i hdk
          have hb := behind k ρk hk' hjk (by
            cases hc : conf ρ ρk with
            | true => rfl
            | false => have := ((conf_l hc).2.2.1 p hd).2; rw [hdk] at this; cases this)
          simp [hb]; omega
        · cases hw
    · rename_i hd
      refine valD_congr _ _ ops.size (fun k hk hw => ?_)
      by_cases hkj : k = j
      · subst hkj; simp only [Wo, hρ, if_neg hd] at hw; cases hw
      · simp [hkj]
  -- the slots behind a put
  have slots : ∀ (E' : En) (v : Value), Fit E E' → RV E' v ρ.r → (∀ d, ρ.dst = some d → d < nt) → o.dst = ρ.dst → ∀ t, RV E' ((a.put o.dst v).tmps.getD t undef) (valD (Wt recs) fr0.get (fun k => D k || k == j) ops.size t) := fun E' v F hv hd hdst t => by
    rw [newT t, hdst]
    cases hρd : ρ.dst with
    | none => simp only [Act.put]; exact (A.fr t).mono F
    | some d =>
      simp only [Act.put]
      by_cases hdt : d = t
      · subst hdt
        rw [if_pos rfl]
        simp only [Array.getD_eq_getD_getElem?, Array.getElem?_setIfInBounds_self, A.sz, if_pos (hd d hρd), Option.getD_some]
        exact hv
      · rw [if_neg (by intro h; injection h with h; exact hdt h)]
        have := (A.fr t).mono F
        simp only [Array.getD_eq_getD_getElem?] at this ⊢
        rw [Array.getElem?_setIfInBounds_ne hdt]
        exact this
  have putSz : ∀ v, (a.put o.dst v).tmps.size = nt ∧ (a.put o.dst v).defers = [] := fun v => by
    cases o.dst <;> simp [Act.put, A.sz, A.df]
  unfold dStep at hds
  simp only [ho, Option.bind_some] at hds
  -- the guard
  have guardRV : ∀ b, wantedA ops frj o = some b → (∀ t ∈ gSlot ops o, ρ.rs.contains t = true) → Region.wanted o (yielded ops a.tmps) = b := fun b hb hsub => by
    have F : FrOk E a ((gSlot ops o).map fun t => (t, frj.get t)) := ⟨fun t => by
      rw [fr_keep]
      split
      · rename_i ht
        have := A.fr t
        rwa [slotEq t (.inl (hsub t ht))] at this
      · exact .undef _⟩
    refine wantedA_ok F (ops := ops) ?_
    rw [← hb]
    exact wantedA_congr (fun t ht => by rw [fr_keep, if_pos ht])
  unfold wpOp
  simp only [ho]
  split at hds
  · cases hds
  · rename_i hw
    rw [Option.map_eq_some_iff] at hds
    obtain ⟨st, hst', he⟩ := hds
    injection he with h1 h2
    subst h1
    rw [guardRV false hw (fun t ht => by simpa using ht), if_neg (by simp)]
    obtain ⟨g1, g2, g3⟩ := putF_get hst'
    refine hK E _ ⟨slots E undef (.refl E) (.tuple [] [] rfl (fun i v a hv => by simp at hv)) g2 rfl, fun p => by rw [newO p]; simpa using A.H p, (putSz undef).1, (putSz undef).2, A.I, newCl⟩ (.refl E) (.refl E)
  · rename_i hw
    split at hds
    · rename_i x hmv
      rw [Option.map_eq_some_iff] at hds
      obtain ⟨st, hst', he⟩ := hds
      injection he with h1 h2
      subst h1
      rw [guardRV true hw (fun t ht => by simp [ht]), if_pos rfl]
      obtain ⟨g1, g2, g3⟩ := putF_get hst'
      simp only [] at slotEq objEq newT newO slots
      have F : FrOk E a ((tmpsOf o.op.operands).map fun t => (t, frj.get t)) := ⟨fun t => by
        rw [fr_keep]
        split
        · rename_i ht
          have h := A.fr t
          rwa [slotEq t (.inl (by simp [ht]))] at h
        · exact .undef _⟩
      refine .inl ?_
      unfold Oper.wp
      rw [mv_run hmv]
      exact hK E _ ⟨slots E _ (.refl E) (F.eval x) g2 trivial, fun p => by rw [newO p]; simpa using A.H p, (putSz _).1, (putSz _).2, A.I, newCl⟩ (.refl E) (.refl E)
    split at hds
    · rename_i hcl
      simp only [Bool.and_eq_true] at hcl
      obtain ⟨hclosed, hpres⟩ := hcl
      simp only [Option.bind_eq_some_iff] at hds
      obtain ⟨⟨r, H'⟩, hop, hds⟩ := hds
      split at hds
      · rename_i hfresh
        rw [Option.map_eq_some_iff] at hds
        obtain ⟨st, hst', he⟩ := hds
        injection he with h1 h2
        subst h1
        rw [guardRV true hw (fun t ht => by simp [ht]), if_pos rfl]
        obtain ⟨g1, g2, g3⟩ := putF_get hst'
        simp only [] at slotEq objEq newT newO slots hop hfresh
        generalize hnm : reach Hj 200 ((tmpsOf o.op.operands).flatMap fun t => hdlV (frj.get t)) [] = nm at *
        have KE : ∀ p x, (restr Hj nm).get p = some x → E.H.get p = some x := fun p x hp => by
          obtain ⟨q1, q2⟩ := restr_get Hj nm p x hp
          rw [A.H p, objEq p (.inl (by simpa using q2))]; exact q1
        have hsub : SubOk E (restr Hj nm) := by
          refine ⟨KE, fun p cs hp q hq => ?_⟩
          simp only [closedK, List.all_eq_true] at hclosed
          have := hclosed (p, .cells cs) (Hp.get_mem' hp)
          simp only [List.all_eq_true] at this
          exact this q hq
        have F : FrOk ⟨E.w, E.S, E.φ, restr Hj nm⟩ a ((tmpsOf o.op.operands).map fun t => (t, frj.get t)) := ⟨fun t => by
          rw [fr_keep]
          split
          · rename_i ht
            have h := A.fr t
            rw [slotEq t (.inl (by simp [ht]))] at h
            refine RV.sub (E := E) (Er := ⟨E.w, E.S, E.φ, restr Hj nm⟩) rfl rfl rfl h (fun p hp => ?_)
            show (restr Hj nm).get p = E.H.get p
            simp only [List.all_eq_true] at hpres
            have := hpres p (List.mem_flatMap.2 ⟨t, ht, hp⟩)
            cases hk : (restr Hj nm).get p with
            | none => rw [hk] at this; cases this
            | some y => rw [KE p y hk]
          · exact .undef _⟩
        refine .inl (opR_ok hic (E := ⟨E.w, E.S, E.φ, restr Hj nm⟩) F (sub_inv A.I hsub) hop (fun v E2 hv I2 e2 S2 F2 => ?_))
        have hfresh' : ∀ p x, E2.H.get p = some x → (restr Hj nm).get p = none → E.H.get p = none := fun p x hp hk => by
          rw [e2] at hp
          by_cases hq : quietK o.op = true
          · have := quiet_H hq hop
            rw [this, hk] at hp; cases hp
          · have hmem : (twOf o H').contains p = true := by
              simp only [twOf, hq]
              simpa using Hp.get_name' hp
            rw [A.H p, objEq p (.inr hmem)]
            simp only [List.all_eq_true] at hfresh
            have := hfresh p (by simpa using hmem)
            rw [hk] at this
            simpa using this
        obtain ⟨φ', I', S', F', U'⟩ := frame_ok A.I hsub I2 S2 F2 hfresh' (E2.H ++ E.H) (fun p => Hp.get_append _ _ _)
        refine hK ⟨E2.w, E2.S, φ', E2.H ++ E.H⟩ _ ⟨slots _ v F' (hv.mono U') g2 trivial, fun p => ?_, (putSz v).1, (putSz v).2, I', newCl⟩ S' F'
        show Hp.get (E2.H ++ E.H) p = _
        rw [newO p, Hp.get_append, e2]
        by_cases hq : quietK o.op = true
        · have hH' := quiet_H hq hop
          have htw : (twOf o H').contains p = false := by simp [twOf, hq]
          rw [if_neg (by rw [htw]; simp), hH', ← A.H p]
          cases hk : (restr Hj nm).get p with
          | none => rfl
          | some y => simp only []; rw [KE p y hk]
        · cases hk : H'.get p with
          | some y =>
            have hmem : (twOf o H').contains p = true := by
              simp only [twOf, hq]
              simpa using Hp.get_name' hk
            rw [if_pos hmem]
          | none =>
            have hmem : ¬ ((twOf o H').contains p = true) := fun h => by
              simp only [twOf, hq] at h
              exact Hp.name_get' (H := H') (o := p) (by simpa using h) hk
            rw [if_neg hmem, ← A.H p]
      · cases hds
    · cases hds

theorem ready_none {ops : Array Oper} {listed : Array Bool} (hs : listed.size = ops.size) (hok : ∀ (i : Nat) (o : Oper), ops[i]? = some o → ∀ e ∈ o.after, Region.binds .any e = true → e.on < i)
    (h : Region.ready .any ops listed = []) : ∀ i, i < ops.size → listed.getD i false = true := by
  intro i
  induction i using Nat.strongRecOn with
  | _ i ih =>
    intro hi
    cases hl : listed.getD i false with
    | true => rfl
    | false =>
      exfalso
      have hm : i ∈ Region.ready .any ops listed := by
        refine mem_ready.2 ⟨?_, ops[i], Array.getElem?_eq_getElem hi, fun e he hb => ih e.on (hok i _ (Array.getElem?_eq_getElem hi) e he hb) (by have := hok i _ (Array.getElem?_eq_getElem hi) e he hb; omega)⟩
        rw [Array.getD_eq_getD_getElem?, Array.getElem?_eq_getElem (by omega)] at hl ⊢
        exact hl
      rw [h] at hm; cases hm

def edgesOk (ops : Array Oper) : Bool := (List.range ops.size).all fun i => match ops[i]? with
  | some o => o.after.toList.all fun e => !Region.binds .any e || decide (e.on < i)
  | none => true
theorem edgesOk_spec {ops : Array Oper} (h : edgesOk ops = true) (i : Nat) (o : Oper) (ho : ops[i]? = some o) : ∀ e ∈ o.after, Region.binds .any e = true → e.on < i := fun e he hb => by
  have hi := (Array.getElem?_eq_some_iff.1 ho).1
  simp only [edgesOk, List.all_eq_true, List.mem_range] at h
  have := h i hi
  rw [ho] at this
  simp only [List.all_eq_true] at this
  have := this e (by simpa using he)
  rw [hb] at this
  simpa using this

theorem any_ok {P : Program} {cfg : Cfg} {ic : Ic} (hic : IcOk P ic) {nt : Nat} {ops : Array Oper} {recs : List Rec} {fr0 : Fr} {H0 : Hp} (hlen : recs.length = ops.size) (hord : orderOk recs (preL ops) = true) (hedge : edgesOk ops = true)
    (hst : ∀ i, i < ops.size → ∃ fri Hi ρ x, recs[i]? = some ρ ∧ dStep P cfg ic nt ops i fri Hi = some (ρ, x) ∧ (∀ t, fri.get t = valD (Wt recs) fr0.get (lt' i) ops.size t) ∧ ∀ o, Hi.get o = valD (Wo recs) H0.get (lt' i) ops.size o)
    {Q : Exit → Act → World → Prop} {E0 : En} (N : Nm → Prop) (hQ : ∀ D E a, AtD ops recs fr0 H0 nt D E a → (∀ i, i < ops.size → D i = true) → Step E0 E → Pin N E0 E → Q .normal a E.w) :
    ∀ (fuel : Nat) (listed : Array Bool) (E : En) (a : Act), listed.size = ops.size → (∀ D, (∀ i, D i = listed.getD i false) → AtD ops recs fr0 H0 nt D E a) → Step E0 E → Pin N E0 E →
      ops.size ≤ fuel + (List.range ops.size).countP (fun i => listed.getD i false) → wpAny P .any ops Q fuel listed a E.w := by
  intro fuel
  have done : ∀ (listed : Array Bool) (E : En) (a : Act), listed.size = ops.size → (∀ D, (∀ i, D i = listed.getD i false) → AtD ops recs fr0 H0 nt D E a) → Step E0 E → Pin N E0 E → Region.ready .any ops listed = [] → Q .normal a E.w := fun listed E a hs hA S0 P0 hr =>
    hQ (fun i => listed.getD i false) E a (hA _ (fun _ => rfl)) (ready_none hs (edgesOk_spec hedge) hr) S0 P0
  induction fuel with
  | zero =>
    intro listed E a hs hA S0 P0 hf
    have hall : ∀ i ∈ List.range ops.size, listed.getD i false = true := by
      have : (List.range ops.size).countP (fun i => listed.getD i false) = (List.range ops.size).length := by
        have := List.countP_le_length (p := fun i => listed.getD i false) (l := List.range ops.size)
        simp at hf this ⊢; omega
      exact List.countP_eq_length.1 this
    have hr : Region.ready .any ops listed = [] := by
      apply List.eq_nil_iff_forall_not_mem.2
      intro j hj
      obtain ⟨h1, o, h2, h3⟩ := mem_ready.1 hj
      have hjn := (Array.getElem?_eq_some_iff.1 h2).1
      have := hall j (by simpa using hjn)
      rw [Array.getD_eq_getD_getElem?, Array.getElem?_eq_getElem (by omega)] at h1 this
      simp at h1 this
      rw [h1] at this; cases this
    exact ⟨hr, done listed E a hs hA S0 P0 hr⟩
  | succ fuel ih =>
    intro listed E a hs hA S0 P0 hf
    refine ⟨fun hr => done listed E a hs hA S0 P0 hr, fun j hj => ?_⟩
    obtain ⟨h1, o, ho, h3⟩ := mem_ready.1 hj
    have hjn := (Array.getElem?_eq_some_iff.1 ho).1
    have hjf : listed.getD j false = false := by
      rw [Array.getD_eq_getD_getElem?, Array.getElem?_eq_getElem (by omega)] at h1 ⊢
      exact h1
    refine at_step hic hlen hord hst (hA (fun i => listed.getD i false) (fun _ => rfl)) ho hjf h3 (fun E' a' A' S' F' => ?_)
    have hset : ∀ i, (listed.setIfInBounds j true).getD i false = (listed.getD i false || i == j) := fun i => by
      rw [Array.getD_eq_getD_getElem?, Array.getElem?_setIfInBounds]
      by_cases hij : j = i
      · subst hij; simp [hs, hjn]
      · rw [if_neg hij, ← Array.getD_eq_getD_getElem?]
        simp [Ne.symm hij]
    have hI : Inv E := (hA (fun i => listed.getD i false) (fun _ => rfl)).I
    refine ih _ E' a' (by simpa using hs) (fun D hD => ?_) (S0.trans hI S') (P0.trans (F'.pin N)) ?_
    · have e : D = fun k => listed.getD k false || k == j := by funext k; rw [hD k, hset k]
      rw [e]; exact A'
    · have hcnt : (List.range ops.size).countP (fun i => (listed.setIfInBounds j true).getD i false) = (List.range ops.size).countP (fun i => listed.getD i false) + 1 := by
        have key : ∀ (l : List Nat), l.Nodup → j ∈ l → l.countP (fun i => listed.getD i false || i == j) = l.countP (fun i => listed.getD i false) + 1 := fun l => by
          induction l with
          | nil => intro _ h; cases h
          | cons x r ihl =>
            intro hn hm
            rw [List.nodup_cons] at hn
            simp only [List.countP_cons]
            by_cases hx : x = j
            · subst hx
              have : r.countP (fun i => listed.getD i false || i == x) = r.countP (fun i => listed.getD i false) := by
                apply List.countP_congr
                intro y hy
                have : y ≠ x := fun e => hn.1 (e ▸ hy)
                simp [this]
              rw [this]; simp [hjf]
            · have hmr : j ∈ r := by simpa [Ne.symm hx] using hm
              rw [ihl hn.2 hmr]
              simp [hx]; omega
        rw [← key (List.range ops.size) List.nodup_range (by simpa using hjn)]
        apply List.countP_congr
        intro y _
        rw [hset y]
      rw [hcnt]; omega

/-- A region whose order is drawn: all that meets is ordered. -/
def drRun (P : Program) (cfg : Cfg) (ic : Ic) (nt : Nat) (ops : Array Oper) (st : St) : Option (Option AV × St) :=
  if edgesOk ops && P.follows .mixedOrders then
  (dGo P cfg ic nt ops ops.size 0 st.fr st.H []).bind fun x => if orderOk x.1 (preL ops) then some (none, ⟨x.2.1, x.2.2⟩) else none
  else none

theorem drRun_ok {P : Program} {cfg : Cfg} {ic : Ic} (hic : IcOk P ic) {nt : Nat} {ops : Array Oper} {st st' : St} {p : Option AV} (h : drRun P cfg ic nt ops st = some (p, st')) (N : Nm → Prop) {E : En} {a : Act} (R : SR nt E a st) (id : Nat) :
    (Code.region id ops true).wp P (Post nt N E (opFx p) st') a E.w := by
  unfold drRun at h
  split at h
  · rename_i hh
    simp only [Bool.and_eq_true] at hh
    obtain ⟨hedge, hmix⟩ := hh
    simp only [Option.bind_eq_some_iff] at h
    obtain ⟨⟨recs, frn, Hn⟩, hgo, h⟩ := h
    split at h
    · rename_i hord
      injection h with h
      injection h with h1 h2
      subst h1 h2
      obtain ⟨t1, t2, t3, t4⟩ := trace (fr0 := st.fr) (H0 := st.H) ops.size 0 st.fr st.H [] recs frn Hn hgo rfl (fun t => rfl) (fun o => rfl) (fun i hi => by omega)
      simp only [Nat.zero_add] at t1 t2 t3 t4
      have v0 : ∀ {α β : Type} (W : Nat → α → Option β) (b : α → β) (l : α), valD W b (fun _ => false) ops.size l = b l := fun W b l => by
        have key : ∀ n, valD W b (fun _ => false) n l = b l := fun n => by
          induction n with
          | zero => rfl
          | succ n ih => simp only [valD]; exact ih
        exact key _
      refine wp_region_any hmix ?_
      have hw : ({ heap := E.w.heap, tape := E.w.tape, drawn := E.w.drawn + 1, os := E.w.os, output := E.w.output } : World) = (⟨E.w.drew, E.S, E.φ, E.H⟩ : En).w := rfl
      have hfit : Fit E ⟨E.w.drew, E.S, E.φ, E.H⟩ := ⟨fun b hb => ⟨hb, rfl⟩, fun o x hx => ⟨x, hx, Compat.self rfl x⟩⟩
      have hinv : Inv ⟨E.w.drew, E.S, E.φ, E.H⟩ := ⟨fun o x hx => (R.I.obj o x hx).mono hfit rfl rfl, R.I.dist, R.I.free, R.I.sin⟩
      have hstep : Step E ⟨E.w.drew, E.S, E.φ, E.H⟩ := ⟨rfl, rfl, rfl, Nat.le_refl _, fun _ _ _ => rfl, fun _ h => h, fun _ h _ => h⟩
      show wpAny P .any ops _ ops.size (Array.replicate ops.size false) a (⟨E.w.drew, E.S, E.φ, E.H⟩ : En).w
      refine any_ok hic (fr0 := st.fr) (H0 := st.H) t1 hord hedge t4 N (E0 := E) (fun D E1 a1 A1 hall S1 P1 => ?_) ops.size _ ⟨E.w.drew, E.S, E.φ, E.H⟩ a (by simp) (fun D hD => ?_) hstep (hfit.pin N) (by omega)
      · -- the end
        have eT : ∀ t, valD (Wt recs) st.fr.get D ops.size t = frn.get t := fun t => by
          rw [t2 t]; exact valD_congr _ _ ops.size (fun k hk _ => hall k hk)
        have eO : ∀ o, E1.H.get o = Hn.get o := fun o => by
          rw [A1.H o, t3 o]; exact valD_congr _ _ ops.size (fun k hk _ => hall k hk)
        have F : Fit E1 ⟨E1.w, E1.S, E1.φ, Hn⟩ := ⟨fun b hb => ⟨hb, rfl⟩, fun o x hx => ⟨x, by show Hn.get o = _; rw [← eO]; exact hx, Compat.self rfl x⟩⟩
        have I2 : Inv ⟨E1.w, E1.S, E1.φ, Hn⟩ := ⟨fun o x hx => (A1.I.obj o x (by rw [eO]; exact hx)).mono F rfl rfl, fun o o' x x' hx hx' => A1.I.dist o o' x x' (by rw [eO]; exact hx) (by rw [eO]; exact hx'), fun o x hx => A1.I.free o x (by rw [eO]; exact hx), A1.I.sin⟩
        refine ⟨⟨E1.w, E1.S, E1.φ, Hn⟩, rfl, ⟨⟨fun t => ?_⟩, A1.sz, A1.df, rfl, I2⟩, S1.trans A1.I ⟨rfl, rfl, rfl, Nat.le_refl _, fun _ _ _ => rfl, fun _ h => h, fun b hb _ => ?_⟩, P1.trans (F.pin N), trivial⟩
        · rw [← eT t]; exact (A1.fr t).mono F
        · rcases hb with h | ⟨o, x, hx, hl, hb⟩
          · exact .inl h
          · exact .inr ⟨o, x, by rw [eO]; exact hx, hl, hb⟩
      · have hD' : D = fun _ => false := by
          funext i
          rw [hD i, Array.getD_eq_getD_getElem?, Array.getElem?_replicate]
          split <;> rfl
        subst hD'
        refine ⟨fun t => ?_, fun o => ?_, R.sz, R.df, hinv, fun i e hi => by cases hi⟩
        · rw [v0]; exact (R.fr.rv t).mono hfit
        · rw [v0]
          show E.H.get o = st.H.get o
          rw [R.H]
    · cases h
  · cases h
end Go.Rx
