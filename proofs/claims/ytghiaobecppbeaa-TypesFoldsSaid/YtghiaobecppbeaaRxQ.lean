/- Rx, part 17: regions whose order is drawn: each operation is run over what it can come to alone; what meets in a place is ordered. -/
import Derived.Test.YtghiaobecppbeaaRxO
namespace Go.Rx
open Go Go.RowKit
set_option linter.unusedVariables false
set_option linter.unusedSimpArgs false

mutual
def hdlV : AV → List Nm
  | .own o _ _ => [o]
  | .ptr o _ => [o]
  | .eptr o _ _ _ => [o]
  | .agg vs => hdlL vs
  | .tuple vs => hdlL vs
  | .fn _ vs => hdlL vs
  | .iface _ a => hdlV a
  | _ => []
def hdlL : List AV → List Nm
  | [] => []
  | a :: r => hdlV a ++ hdlL r
end
def reach (H : Hp) : Nat → List Nm → List Nm → List Nm
  | 0, _, seen => seen
  | _, [], seen => seen
  | k + 1, o :: todo, seen => if seen.contains o then reach H k todo seen else
    match H.get o with
    | some (.cells cs) => reach H k (todo ++ hdlL cs) (seen ++ [o])
    | some _ => reach H k todo (seen ++ [o])
    | none => reach H k todo seen

theorem hdlL_mem : ∀ (l : List AV) (i : Nat) (a : AV), l[i]? = some a → ∀ o, o ∈ hdlV a → o ∈ hdlL l
  | [], i, a, h => by simp at h
  | b :: r, 0, a, h => by simp at h; subst h; intro o ho; simp [hdlL, ho]
  | b :: r, i + 1, a, h => fun o ho => by simp [hdlL, hdlL_mem r i a (by simpa using h) o ho]

/-- Read over fewer objects. -/
theorem RV.sub {E Er : En} (hw : Er.w = E.w) (hS : Er.S = E.S) (hφ : Er.φ = E.φ) {v : Value} {a : AV} (h : RV E v a) : (∀ o ∈ hdlV a, Er.H.get o = E.H.get o) → RV Er v a := by
  induction h with
  | undef v => intro _; exact .undef v
  | d v x hx => intro _; exact .d v x (by rw [hw, hS]; exact hx)
  | nilsl => intro _; exact .nilsl
  | agg cs vs hl h1 _ ih => intro hh; exact .agg cs vs hl h1 (fun i v a hv ha => ih i v a hv ha (fun o ho => hh o (by simp only [hdlV]; exact hdlL_mem vs i a ha o ho)))
  | tuple cs vs hl _ ih => intro hh; exact .tuple cs vs hl (fun i v a hv ha => ih i v a hv ha (fun o ho => hh o (by simp only [hdlV]; exact hdlL_mem vs i a ha o ho)))
  | fn f cs vs hl _ ih => intro hh; exact .fn f cs vs hl (fun i v a hv ha => ih i v a hv ha (fun o ho => hh o (by simp only [hdlV]; exact hdlL_mem vs i a ha o ho)))
  | iface t v a _ ih => intro hh; exact .iface t v a (ih (fun o ho => hh o (by simpa only [hdlV] using ho)))
  | rptr b off e k hb hc => intro _; exact .rptr b off e k (by rw [hS]; exact hb) (by rw [hw, hS]; exact hc)
  | ptr o off cs hg =>
    intro hh
    have := hh o (by simp [hdlV])
    rw [← hφ]
    exact .ptr o off cs (by rw [this]; exact hg)
  | own v o ver n h1 ho =>
    intro hh
    have hg := hh o (by simp [hdlV])
    obtain ⟨x, h2, h3⟩ := ho
    refine .own v o ver n h1 ⟨x, by rw [hg]; exact h2, ?_⟩
    unfold En.sl at *
    rw [hφ]; exact h3
  | eptr v o ver i off h1 ho =>
    intro hh
    have hg := hh o (by simp [hdlV])
    obtain ⟨x, h2, h3⟩ := ho
    refine .eptr v o ver i off h1 ⟨x, by rw [hg]; exact h2, ?_⟩
    rw [hφ]; exact h3

/-- The objects named in K are those of E, and what they hold are handles on objects of K. -/
def SubOk (E : En) (K : Hp) : Prop := (∀ o x, K.get o = some x → E.H.get o = some x) ∧ ∀ o cs, K.get o = some (.cells cs) → ∀ p ∈ hdlL cs, (K.get p).isSome = true

theorem sub_inv {E : En} (I : Inv E) {K : Hp} (h : SubOk E K) : Inv ⟨E.w, E.S, E.φ, K⟩ := by
  obtain ⟨h1, h2⟩ := h
  refine ⟨fun o x hx => ?_, fun o o' x x' hx hx' => I.dist o o' x x' (h1 o x hx) (h1 o' x' hx'), fun o x hx => I.free o x (h1 o x hx), I.sin⟩
  have hr := I.obj o x (h1 o x hx)
  cases x with
  | cells cs =>
    obtain ⟨c, ty, b1, b2, b3, b4⟩ := hr
    refine ⟨c, ty, b1, b2, b3, fun k v a hv ha => RV.sub (E := E) (Er := ⟨E.w, E.S, E.φ, K⟩) rfl rfl rfl (b4 k v a hv ha) (fun p hp => ?_)⟩
    have hs := h2 o cs hx p (hdlL_mem cs k a ha p hp)
    show K.get p = E.H.get p
    cases hk : K.get p with
    | none => rw [hk] at hs; cases hs
    | some y => rw [h1 p y hk]
  | arr e s v es => exact hr
  | frz e s v es => exact hr

/-- What is done over fewer objects is done over all. -/
theorem frame_ok {E E2 : En} (I : Inv E) {K : Hp} (hK : SubOk E K) (I2 : Inv E2) (S : Step ⟨E.w, E.S, E.φ, K⟩ E2) (F : Fit ⟨E.w, E.S, E.φ, K⟩ E2) (hfresh : ∀ o x, E2.H.get o = some x → K.get o = none → E.H.get o = none)
    (H' : Hp) (hH : ∀ o, H'.get o = match E2.H.get o with | some x => some x | none => E.H.get o) :
    ∃ φ', Inv ⟨E2.w, E2.S, φ', H'⟩ ∧ Step E ⟨E2.w, E2.S, φ', H'⟩ ∧ Fit E ⟨E2.w, E2.S, φ', H'⟩ ∧ Fit E2 ⟨E2.w, E2.S, φ', H'⟩ := by
  have I1 := sub_inv I hK
  let φ' : Nm → Nat × Nat := fun o => if (E2.H.get o).isSome then E2.φ o else E.φ o
  have φin : ∀ o x, E2.H.get o = some x → φ' o = E2.φ o := fun o x h => by simp only [φ', h]; rfl
  have φout : ∀ o, E2.H.get o = none → φ' o = E.φ o := fun o h => by simp only [φ', h]; rfl
  have inK : ∀ o, E2.H.get o = none → K.get o = none := fun o h => by
    cases hk : K.get o with
    | none => rfl
    | some x => obtain ⟨x', h', _⟩ := F.hm o x hk; rw [h] at h'; cases h'
  have up : Fit E2 ⟨E2.w, E2.S, φ', H'⟩ := ⟨fun b hb => ⟨hb, rfl⟩, fun o x hx => ⟨x, by show H'.get o = _; rw [hH, hx], Compat.self (φin o x hx) x⟩⟩
  have owns1 : ∀ b, Owns ⟨E.w, E.S, E.φ, K⟩ b → ∃ o x, K.get o = some x ∧ E.H.get o = some x ∧ x.live = true ∧ (E.φ o).1 = b := fun b ⟨o, x, h1, h2, h3⟩ => ⟨o, x, h1, hK.1 o x h1, h2, h3⟩
  have restno : ∀ q x, K.get q = none → E.H.get q = some x → ¬ Owns ⟨E.w, E.S, E.φ, K⟩ (E.φ q).1 := fun q x hq hx ho => by
    obtain ⟨o, z, h1, h2, h3, h4⟩ := owns1 _ ho
    cases hl : x.live with
    | true =>
      have := I.dist o q z x h2 hx h3 hl h4
      subst this
      rw [hq] at h1; cases h1
    | false =>
      cases x with
      | frz e s v es =>
        obtain ⟨h0, _⟩ := I.obj q _ hx
        exact I.free o z h2 h3 (h4 ▸ h0)
      | cells cs => cases hl
      | arr e s v es => cases hl
  have restblk : ∀ q x, K.get q = none → E.H.get q = some x → E2.w.heap[(E.φ q).1]? = E.w.heap[(E.φ q).1]? := fun q x hq hx => S.keep _ (I.obj q x hx).lt (restno q x hq hx)
  have st1 : ∀ b, E.S b → E2.S b ∧ E2.w.heap[b]? = E.w.heap[b]? := fun b hS => Step.st I1 S b hS
  have from' : ∀ q x, H'.get q = some x → (E2.H.get q = some x ∧ φ' q = E2.φ q) ∨ (E2.H.get q = none ∧ K.get q = none ∧ E.H.get q = some x ∧ φ' q = E.φ q) := fun q x hq => by
    rw [hH] at hq
    cases h2 : E2.H.get q with
    | some y => rw [h2] at hq; injection hq with hq; subst hq; exact .inl ⟨rfl, φin q y h2⟩
    | none => rw [h2] at hq; exact .inr ⟨rfl, inK q h2, hq, φout q h2⟩
  have fit : Fit E ⟨E2.w, E2.S, φ', H'⟩ := by
    refine ⟨st1, fun o x hx => ?_⟩
    cases hk : K.get o with
    | some y =>
      have := hK.1 o y hk
      rw [hx] at this
      injection this with this
      subst this
      obtain ⟨x', h1, h2⟩ := F.hm o x hk
      refine ⟨x', by show H'.get o = _; rw [hH, h1], ?_⟩
      have hφ := φin o x' h1
      cases x <;> cases x' <;> simp only [Compat] at h2 ⊢
      · exact hφ.trans h2
      all_goals exact ⟨h2.1, fun e => ⟨(h2.2 e).1, hφ.trans (h2.2 e).2.1, (h2.2 e).2.2⟩⟩
    | none =>
      have h2 : E2.H.get o = none := by
        cases h2 : E2.H.get o with
        | none => rfl
        | some y => have := hfresh o y h2 hk; rw [hx] at this; cases this
      exact ⟨x, by show H'.get o = _; rw [hH, h2]; exact hx, Compat.self (φout o h2) x⟩
  have restlive : ∀ q x, K.get q = none → E.H.get q = some x → x.live = true → ¬ E2.S (E.φ q).1 ∧ ¬ Owns E2 (E.φ q).1 := fun q x hq hx hl => by
    have no2 := restno q x hq hx
    have noS : ¬ E.S (E.φ q).1 := I.free q x hx hl
    have hlt := (I.obj q x hx).lt
    exact ⟨fun h => by rcases S.new _ (.inl h) hlt with h | h; · exact noS h
                       · exact no2 h,
           fun h => by rcases S.new _ (.inr h) hlt with h | h; · exact noS h
                       · exact no2 h⟩
  refine ⟨φ', ⟨fun q x hq => ?_, fun q r x y hq hr hx hy hb => ?_, fun q x hq hl => ?_, I2.sin⟩, ⟨S.os, S.tape, S.output, S.size, fun blk hlt hno => ?_, fun blk h => (st1 blk h).1, fun blk h hlt => ?_⟩, fit, up⟩
  · rcases from' q x hq with ⟨h1, h2⟩ | ⟨h0, h1, h2, h3⟩
    · exact (I2.obj q x h1).mono up h2 rfl
    · exact (I.obj q x h2).mono fit h3 (restblk q x h1 h2)
  · have hb' : (φ' q).1 = (φ' r).1 := hb
    rcases from' q x hq with ⟨h1, h2⟩ | ⟨h0, h1, h2, h3⟩
    · rcases from' r y hr with ⟨h1', h2'⟩ | ⟨h0', h1', h2', h3'⟩
      · exact I2.dist q r x y h1 h1' hx hy (by rw [← h2, ← h2']; exact hb')
      · exact ((restlive r y h1' h2' hy).2 ⟨q, x, h1, hx, by rw [← h2, hb', h3']⟩).elim
    · rcases from' r y hr with ⟨h1', h2'⟩ | ⟨h0', h1', h2', h3'⟩
      · exact ((restlive q x h1 h2 hx).2 ⟨r, y, h1', hy, by rw [← h2', ← hb', h3]⟩).elim
      · exact I.dist q r x y h2 h2' hx hy (by rw [← h3, ← h3']; exact hb')
  · show ¬ E2.S (φ' q).1
    rcases from' q x hq with ⟨h1, h2⟩ | ⟨h0, h1, h2, h3⟩
    · rw [h2]; exact I2.free q x h1 hl
    · rw [h3]; exact (restlive q x h1 h2 hl).1
  · refine S.keep blk hlt (fun ho => hno ?_)
    obtain ⟨o, x, h1, h2, h3, h4⟩ := owns1 _ ho
    exact ⟨o, x, h2, h3, h4⟩
  · have key : E2.S blk ∨ Owns E2 blk → E.S blk ∨ Owns E blk := fun h => by
      rcases S.new blk h hlt with h | h
      · exact .inl h
      · obtain ⟨o, x, h1, h2, h3, h4⟩ := owns1 _ h
        exact .inr ⟨o, x, h2, h3, h4⟩
    rcases h with h | ⟨q, x, hq, hx, hbq⟩
    · exact key (.inl h)
    · have hbq' : (φ' q).1 = blk := hbq
      rcases from' q x hq with ⟨h1, h2⟩ | ⟨h0, h1, h2, h3⟩
      · exact key (.inr ⟨q, x, h1, hx, by rw [← h2]; exact hbq'⟩)
      · exact .inr ⟨q, x, h2, hx, by rw [← h3]; exact hbq'⟩

theorem Hp.get_name' : ∀ {H : Hp} {o : Nm} {x : AObj}, H.get o = some x → o ∈ H.map (·.1)
  | [], _, _, h => by cases h
  | (p, y) :: r, o, x, h => by
    simp only [Hp.get_cons] at h
    split at h
    · rename_i hp; subst hp; simp
    · simp only [List.map_cons]; exact List.mem_cons_of_mem _ (Hp.get_name' h)
theorem Hp.name_get' : ∀ {H : Hp} {o : Nm}, o ∈ H.map (·.1) → H.get o = none → False
  | [], _, h, _ => by simp at h
  | (p, y) :: r, o, h, hn => by
    simp only [Hp.get_cons] at hn
    split at hn
    · cases hn
    · rename_i hp
      simp only [List.map_cons, List.mem_cons] at h
      rcases h with h | h
      · exact hp h.symm
      · exact Hp.name_get' h hn
theorem Hp.get_mem' : ∀ {H : Hp} {o : Nm} {x : AObj}, H.get o = some x → (o, x) ∈ H
  | [], _, _, h => by cases h
  | (p, y) :: r, o, x, h => by
    simp only [Hp.get_cons] at h
    split at h
    · rename_i hp; subst hp; injection h with h; subst h; simp
    · exact List.mem_cons_of_mem _ (Hp.get_mem' h)
theorem fr_keep (keep : List Nat) (h : Nat → AV) : ∀ t, Fr.get (keep.map fun s => (s, h s)) t = if t ∈ keep then h t else .undef := fun t => by
  induction keep with
  | nil => simp [Fr.get]
  | cons s r ih =>
    simp only [List.map_cons, Fr.get_cons, ih]
    by_cases hs : s = t
    · subst hs; simp
    · rw [if_neg hs]
      have : (t ∈ s :: r) ↔ t ∈ r := by simp; intro h; exact absurd h.symm hs
      by_cases h2 : t ∈ r
      · rw [if_pos h2, if_pos (this.2 h2)]
      · rw [if_neg h2, if_neg (fun h => h2 (this.1 h))]

/-! ### Places and who wrote them last -/
section
variable {α β : Type} (W : Nat → α → Option β) (base : α → β)
def valD (D : Nat → Bool) : Nat → α → β
  | 0, l => base l
  | k + 1, l => match D k, W k l with
    | true, some x => x
    | _, _ => valD D k l
theorem valD_congr {D D' : Nat → Bool} {l : α} : ∀ n, (∀ k, k < n → (W k l).isSome = true → D k = D' k) → valD W base D n l = valD W base D' n l
  | 0, _ => rfl
  | n + 1, h => by
    simp only [valD]
    rw [valD_congr n (fun k hk => h k (by omega))]
    cases hw : W n l with
    | none => cases D n <;> cases D' n <;> rfl
    | some x => rw [h n (by omega) (by rw [hw]; rfl)]
theorem valD_put {D' : Nat → Bool} {l : α} {j : Nat} {x : β} (hx : W j l = some x) (hj : D' j = true) : ∀ n, j < n → (∀ k, k < n → j < k → (W k l).isSome = true → D' k = false) → valD W base D' n l = x
  | 0, h, _ => by omega
  | n + 1, h, hk => by
    simp only [valD]
    by_cases hn : n = j
    · subst hn; rw [hj, hx]
    · have ih := valD_put hx hj n (by omega) (fun k h1 h2 h3 => hk k (by omega) h2 h3)
      cases hw : W n l with
      | none => cases D' n <;> exact ih
      | some y => rw [hk n (by omega) (by omega) (by rw [hw]; rfl)]; exact ih
end
end Go.Rx
