/- Words of a condition as plain Lean over bytes: what a text's words are, and how texts put together have both ones' words. No program is in sight here. -/
import Derived.Lib.Strings
import Derived.RowKit
namespace Go.Proofs.Ytfcndngnoognmaa.Lx
open Go.RowKit
set_option linter.unusedVariables false
set_option linter.unusedSimpArgs false

def bs (s : ByteArray) : List UInt8 := s.data.toList
theorem bs_len (s : ByteArray) : (bs s).length = s.size := (Lib.size_eq s).symm
theorem bs_extract (s : ByteArray) (a b : Nat) : bs (s.extract a b) = ((bs s).drop a).take (b - a) := Lib.extract_data s a b
theorem bs_append (a b : ByteArray) : bs (a ++ b) = bs a ++ bs b := ByteArray.toList_data_append
theorem toList_bs (s : ByteArray) : s.toList = bs s := Lib.toList_data s
theorem bs_mk (l : List UInt8) : bs ⟨l.toArray⟩ = l := rfl
theorem mk_bs (s : ByteArray) : (⟨(bs s).toArray⟩ : ByteArray) = s := Lib.mk_data s
theorem bs_inj {a b : ByteArray} (h : bs a = bs b) : a = b := by rw [← mk_bs a, ← mk_bs b, h]
theorem extract_mk (s : ByteArray) (a b : Nat) : s.extract a b = ⟨(((bs s).drop a).take (b - a)).toArray⟩ := bs_inj (bs_extract s a b)
theorem extract_one {s : ByteArray} {p : Nat} {c : UInt8} {r : List UInt8} (h : (bs s).drop p = c :: r) : s.extract p (p + 1) = ⟨#[c]⟩ := by
  rw [extract_mk, h]; simp

theorem u8_lt (c : UInt8) : c.toNat < 256 := c.toNat_lt
theorem u8_eq {a b : UInt8} (h : a.toNat = b.toNat) : a = b := UInt8.toNat_inj.1 h

def dig (c : UInt8) : Bool := decide (48 ≤ c.toNat) && decide (c.toNat ≤ 57)
def ltr (c : UInt8) : Bool := decide (97 ≤ c.toNat) && decide (c.toNat ≤ 122)
def aln (c : UInt8) : Bool := ltr c || dig c
def sgn (c : UInt8) : Bool := [43, 45, 42, 47, 61, 60, 40, 41, 38, 124, 33].contains c.toNat
theorem dig_iff {c : UInt8} : dig c = true ↔ 48 ≤ c.toNat ∧ c.toNat ≤ 57 := by simp [dig]
theorem ltr_iff {c : UInt8} : ltr c = true ↔ 97 ≤ c.toNat ∧ c.toNat ≤ 122 := by simp [ltr]
theorem aln_iff {c : UInt8} : aln c = true ↔ (97 ≤ c.toNat ∧ c.toNat ≤ 122) ∨ (48 ≤ c.toNat ∧ c.toNat ≤ 57) := by simp [aln, dig, ltr]
theorem sgn_iff {c : UInt8} : sgn c = true ↔ c.toNat = 43 ∨ c.toNat = 45 ∨ c.toNat = 42 ∨ c.toNat = 47 ∨ c.toNat = 61 ∨ c.toNat = 60 ∨ c.toNat = 40 ∨ c.toNat = 41 ∨ c.toNat = 38 ∨ c.toNat = 124 ∨ c.toNat = 33 := by
  simp [sgn]
/-- digits behind a number. -/
def valF (n : Nat) : List UInt8 → Nat
  | [] => n
  | c :: r => valF (n * 10 + (c.toNat - 48)) r
theorem valF_le (n : Nat) (l : List UInt8) : n ≤ valF n l := by
  induction l generalizing n with
  | nil => exact Nat.le_refl _
  | cons c r ih => exact Nat.le_trans (by omega) (ih _)
theorem valF_append (n : Nat) (a b : List UInt8) : valF n (a ++ b) = valF (valF n a) b := by
  induction a generalizing n with
  | nil => rfl
  | cons c r ih => exact ih _

structure Tok where
  k : Int
  t : List UInt8
  n : Int
  p : Int
/-- words, or what is wrong, and where. -/
inductive Res where
  | ok (l : List Tok)
  | bad (e p : Int)
def Res.cons (t : Tok) : Res → Res
  | .ok l => .ok (t :: l)
  | .bad e p => .bad e p

theorem drop_le (f : UInt8 → Bool) (r : List UInt8) : (r.dropWhile f).length ≤ r.length := (List.dropWhile_suffix f).length_le

def lexB (l : List UInt8) (p : Nat) : Res := match l with
  | [] => .ok []
  | c :: r =>
    if c.toNat = 32 then lexB r (p + 1)
    else if dig c then
      if 9223372036854775808 ≤ valF (c.toNat - 48) (r.takeWhile dig) then .bad 13 p
      else if (r.dropWhile dig).head?.any ltr then .bad 3 ((p + 1 + (r.takeWhile dig).length : Nat) : Int)
      else (lexB (r.dropWhile dig) (p + 1 + (r.takeWhile dig).length)).cons ⟨1, [], valF (c.toNat - 48) (r.takeWhile dig), p⟩
    else if ltr c then
      if 32 < 1 + (r.takeWhile aln).length then .bad 3 p
      else (lexB (r.dropWhile aln) (p + 1 + (r.takeWhile aln).length)).cons ⟨2, c :: r.takeWhile aln, 0, p⟩
    else if sgn c then (lexB r (p + 1)).cons ⟨3, [c], 0, p⟩
    else .bad 3 p
termination_by l.length
decreasing_by all_goals (first | (simp; done) | (have := drop_le dig r; have := drop_le aln r; simp; omega))

/-- what a text comes to. -/
def lexS (l : List UInt8) : Res := if 4096 < l.length then .bad 6 0 else lexB l 0

/-! ## where a fault lies; where words lie -/
theorem takeDrop (f : UInt8 → Bool) (r : List UInt8) : (r.takeWhile f).length + (r.dropWhile f).length = r.length := by
  have := congrArg List.length (List.takeWhile_append_dropWhile (p := f) (l := r)); rw [List.length_append] at this; exact this

def Res.good (lo hi : Nat) (l : List UInt8) : Res → Prop
  | .bad _ p => (lo : Int) ≤ p ∧ p < hi
  | .ok _ => True
theorem Res.good_cons {lo hi lo' : Nat} {l l'} {t : Tok} {r : Res} (h : r.good lo hi l) (hlo : lo' ≤ lo) : (r.cons t).good lo' hi l' := by
  cases r with
  | ok _ => trivial
  | bad e p => exact ⟨by have := h.1; omega, h.2⟩
theorem lexB_good (l : List UInt8) (p : Nat) : (lexB l p).good p (p + l.length) l := by
  fun_induction lexB l p with
  | case1 => trivial
  | case2 p c r h ih =>
    revert ih; cases lexB r (p + 1) with
    | ok _ => intro _; trivial
    | bad e q => intro ih; exact ⟨by have := ih.1; omega, by have := ih.2; simp only [List.length_cons]; omega⟩
  | case3 p c r => exact ⟨by omega, by simp only [List.length_cons]; omega⟩
  | case4 p c r h1 h2 h3 h4 =>
    have := takeDrop dig r
    have h5 : 0 < (r.dropWhile dig).length := by
      cases h6 : r.dropWhile dig with
      | nil => rw [h6] at h4; simp at h4
      | cons _ _ => simp
    exact ⟨by omega, by simp only [List.length_cons]; omega⟩
  | case5 p c r h1 h2 h3 h4 ih =>
    have := takeDrop dig r
    have e : p + 1 + (r.takeWhile dig).length + (r.dropWhile dig).length = p + (c :: r).length := by simp only [List.length_cons]; omega
    rw [e] at ih
    exact Res.good_cons ih (by omega)
  | case6 p c r => exact ⟨by omega, by simp only [List.length_cons]; omega⟩
  | case7 p c r h1 h2 h3 h4 ih =>
    have := takeDrop aln r
    have e : p + 1 + (r.takeWhile aln).length + (r.dropWhile aln).length = p + (c :: r).length := by simp only [List.length_cons]; omega
    rw [e] at ih
    exact Res.good_cons ih (by omega)
  | case8 p c r h1 h2 h3 h4 ih =>
    have e : p + 1 + r.length = p + (c :: r).length := by simp only [List.length_cons]; omega
    rw [e] at ih
    exact Res.good_cons ih (by omega)
  | case9 p c r => exact ⟨by omega, by simp only [List.length_cons]; omega⟩

/-- a word as the chapter has it, of the text L. -/
def Tok.fits (L : List UInt8) (t : Tok) : Prop :=
  0 ≤ t.p ∧ t.p < L.length ∧ t.p + t.t.length ≤ L.length ∧ (L.drop t.p.toNat).take t.t.length = t.t ∧ (t.k = 1 → t.t = [] ∧ 0 ≤ t.n) ∧ (t.k ≠ 1 → t.t ≠ [] ∧ t.n = 0)
/-- words in their order from a place on. -/
def rising (L : List UInt8) : Int → List Tok → Prop
  | _, [] => True
  | lo, t :: r => lo ≤ t.p ∧ t.fits L ∧ rising L (t.p + max 1 (t.t.length : Int)) r
theorem rising_mono {L : List UInt8} {lo lo' : Int} (h : lo' ≤ lo) : ∀ {r : List Tok}, rising L lo r → rising L lo' r
  | [], _ => trivial
  | _ :: _, ⟨a, b, c⟩ => ⟨by omega, b, c⟩
theorem drop_cons {L : List UInt8} {p : Nat} {c : UInt8} {r : List UInt8} (h : L.drop p = c :: r) : p < L.length ∧ L.drop (p + 1) = r := by
  have h1 : p < L.length := by
    apply Decidable.byContradiction
    intro h2
    rw [List.drop_eq_nil_of_le (by omega)] at h
    cases h
  refine ⟨h1, ?_⟩
  rw [List.drop_eq_getElem_cons h1] at h
  injection h
theorem drop_while {L : List UInt8} {p : Nat} {r : List UInt8} (f : UInt8 → Bool) (h : L.drop p = r) : L.drop (p + (r.takeWhile f).length) = r.dropWhile f := by
  rw [← List.drop_drop, h]
  have h2 : r = r.takeWhile f ++ r.dropWhile f := List.takeWhile_append_dropWhile.symm
  generalize r.takeWhile f = a at *
  generalize r.dropWhile f = b at *
  rw [h2, List.drop_left]
def Res.rises (L : List UInt8) (lo : Int) : Res → Prop
  | .bad _ _ => True
  | .ok l => rising L lo l
theorem Res.rises_cons {L : List UInt8} {lo lo' : Int} {t : Tok} {r : Res} (h : r.rises L lo) (h1 : lo' ≤ t.p) (h2 : t.fits L) (h3 : t.p + max 1 (t.t.length : Int) ≤ lo) : (r.cons t).rises L lo' := by
  cases r with
  | bad _ _ => trivial
  | ok l => exact ⟨h1, h2, rising_mono h3 h⟩
theorem lexB_rises (L : List UInt8) (l : List UInt8) (p : Nat) : L.drop p = l → (lexB l p).rises L p := by
  fun_induction lexB l p with
  | case1 => intro _; trivial
  | case2 p c r h ih =>
    intro hL
    have := ih (drop_cons hL).2
    revert this
    cases lexB r (p + 1) with
    | bad _ _ => intro _; trivial
    | ok l => intro h; exact rising_mono (by omega) h
  | case3 p c r => intro _; trivial
  | case4 p c r => intro _; trivial
  | case5 p c r h1 h2 h3 h4 ih =>
    intro hL
    obtain ⟨hp, hd⟩ := drop_cons hL
    have := ih (drop_while dig hd)
    exact Res.rises_cons this (by simp) ⟨by simp, by simp; omega, by simp; omega, by simp, fun _ => ⟨rfl, by simp⟩, fun h => absurd rfl h⟩ (by simp; omega)
  | case6 p c r => intro _; trivial
  | case7 p c r h1 h2 h3 h4 ih =>
    intro hL
    obtain ⟨hp, hd⟩ := drop_cons hL
    have := ih (drop_while aln hd)
    have hlen : (c :: r).length = L.length - p := by rw [← hL, List.length_drop]
    have htd := takeDrop aln r
    simp only [List.length_cons] at hlen
    refine Res.rises_cons this (by simp) ⟨by simp, by simp; omega, by simp; omega, ?_, fun h => by simp at h, fun _ => ⟨by simp, rfl⟩⟩ (by simp; omega)
    simp only [Int.toNat_natCast, List.length_cons]
    rw [hL, List.take_succ_cons]
    congr 1
    have h2 : r = r.takeWhile aln ++ r.dropWhile aln := List.takeWhile_append_dropWhile.symm
    generalize r.takeWhile aln = a at *
    generalize r.dropWhile aln = b at *
    rw [h2, List.take_left]
  | case8 p c r h1 h2 h3 h4 ih =>
    intro hL
    obtain ⟨hp, hd⟩ := drop_cons hL
    have := ih hd
    refine Res.rises_cons this (by simp) ⟨by simp, by simp; omega, by simp; omega, ?_, fun h => by simp at h, fun _ => ⟨by simp, rfl⟩⟩ (by simp)
    simp only [Int.toNat_natCast, List.length_cons, List.length_nil]
    rw [hL]
    rfl
  | case9 p c r => intro _; trivial

theorem lexB_len (l : List UInt8) (p : Nat) : match lexB l p with
    | .ok ts => ts.length ≤ l.length
    | .bad _ _ => True := by
  fun_induction lexB l p with
  | case1 => exact Nat.le_refl _
  | case2 p c r h ih =>
    revert ih; cases lexB r (p + 1) with
    | ok _ => intro ih; exact Nat.le_succ_of_le ih
    | bad _ _ => intro _; trivial
  | case3 => trivial
  | case4 => trivial
  | case5 p c r h1 h2 h3 h4 ih =>
    have := drop_le dig r
    revert ih; cases lexB (r.dropWhile dig) (p + 1 + (r.takeWhile dig).length) with
    | ok _ => intro ih; simp only [Res.cons, List.length_cons] at *; omega
    | bad _ _ => intro _; trivial
  | case6 => trivial
  | case7 p c r h1 h2 h3 h4 ih =>
    have := drop_le aln r
    revert ih; cases lexB (r.dropWhile aln) (p + 1 + (r.takeWhile aln).length) with
    | ok _ => intro ih; simp only [Res.cons, List.length_cons] at *; omega
    | bad _ _ => intro _; trivial
  | case8 p c r h1 h2 h3 h4 ih =>
    revert ih; cases lexB r (p + 1) with
    | ok _ => intro ih; simp only [Res.cons, List.length_cons] at *; omega
    | bad _ _ => intro _; trivial
  | case9 => trivial
theorem lexB_err (l : List UInt8) (p : Nat) : match lexB l p with
    | .ok _ => True
    | .bad e _ => e ≠ 0 := by
  fun_induction lexB l p with
  | case1 => trivial
  | case2 p c r h ih => exact ih
  | case3 => exact (by decide : (13 : Int) ≠ 0)
  | case4 => exact (by decide : (3 : Int) ≠ 0)
  | case5 p c r h1 h2 h3 h4 ih =>
    revert ih; cases lexB (r.dropWhile dig) (p + 1 + (r.takeWhile dig).length) with
    | ok _ => intro _; trivial
    | bad _ _ => intro ih; exact ih
  | case6 => exact (by decide : (3 : Int) ≠ 0)
  | case7 p c r h1 h2 h3 h4 ih =>
    revert ih; cases lexB (r.dropWhile aln) (p + 1 + (r.takeWhile aln).length) with
    | ok _ => intro _; trivial
    | bad _ _ => intro ih; exact ih
  | case8 p c r h1 h2 h3 h4 ih =>
    revert ih; cases lexB r (p + 1) with
    | ok _ => intro _; trivial
    | bad _ _ => intro ih; exact ih
  | case9 => exact (by decide : (3 : Int) ≠ 0)

/-! ## texts put together -/
def Tok.shift (d : Int) (t : Tok) : Tok := { t with p := t.p + d }
def Res.shift (d : Int) : Res → Res
  | .ok l => .ok (l.map (Tok.shift d))
  | .bad e p => .bad e (p + d)
theorem Res.shift_cons (d : Int) (t : Tok) (r : Res) : (r.cons t).shift d = (r.shift d).cons (t.shift d) := by cases r <;> rfl
theorem lexB_shift (l : List UInt8) (p : Nat) : ∀ d : Nat, lexB l (p + d) = (lexB l p).shift d := by
  fun_induction lexB l p with
  | case1 => intro d; unfold lexB; rfl
  | case2 p c r h ih => intro d; rw [lexB, if_pos h, ← ih d]; congr 1; omega
  | case3 p c r h1 h2 h3 => intro d; rw [lexB, if_neg h1, if_pos h2, if_pos h3]; simp [Res.shift]
  | case4 p c r h1 h2 h3 h4 => intro d; rw [lexB, if_neg h1, if_pos h2, if_neg h3, if_pos h4]; simp [Res.shift]; omega
  | case5 p c r h1 h2 h3 h4 ih =>
    intro d; rw [lexB, if_neg h1, if_pos h2, if_neg h3, if_neg h4, Res.shift_cons, ← ih d]
    rw [show p + d + 1 + (r.takeWhile dig).length = p + 1 + (r.takeWhile dig).length + d from by omega]
    simp [Tok.shift]
  | case6 p c r h1 h2 h3 h4 => intro d; rw [lexB, if_neg h1, if_neg h2, if_pos h3, if_pos h4]; simp [Res.shift]
  | case7 p c r h1 h2 h3 h4 ih =>
    intro d; rw [lexB, if_neg h1, if_neg h2, if_pos h3, if_neg h4, Res.shift_cons, ← ih d]
    rw [show p + d + 1 + (r.takeWhile aln).length = p + 1 + (r.takeWhile aln).length + d from by omega]
    simp [Tok.shift]
  | case8 p c r h1 h2 h3 h4 ih =>
    intro d; rw [lexB, if_neg h1, if_neg h2, if_neg h3, if_pos h4, Res.shift_cons, ← ih d]
    rw [show p + d + 1 = p + 1 + d from by omega]
    simp [Tok.shift]
  | case9 p c r h1 h2 h3 h4 => intro d; rw [lexB, if_neg h1, if_neg h2, if_neg h3, if_neg h4]; simp [Res.shift]
def Res.then (r : Res) (q : Res) : Res := match r with
  | .bad e p => .bad e p
  | .ok l => match q with
    | .bad e p => .bad e p
    | .ok m => .ok (l ++ m)
theorem Res.then_cons (t : Tok) (r q : Res) : (r.cons t).then q = (r.then q).cons t := by cases r <;> cases q <;> rfl
theorem Res.nil_then (q : Res) : (Res.ok []).then q = q := by cases q <;> rfl
theorem dig32 : dig 32 = false := rfl
theorem aln32 : aln 32 = false := rfl
theorem ltr32 : ltr 32 = false := rfl
theorem tw_app (f : UInt8 → Bool) (hf : f 32 = false) (r t : List UInt8) : (r ++ 32 :: t).takeWhile f = r.takeWhile f := by
  induction r with
  | nil => simp [hf]
  | cons c r ih =>
    by_cases h : f c = true
    · simp [h, ih]
    · simp [h]
theorem dw_app (f : UInt8 → Bool) (hf : f 32 = false) (r t : List UInt8) : (r ++ 32 :: t).dropWhile f = r.dropWhile f ++ 32 :: t := by
  induction r with
  | nil => simp [hf]
  | cons c r ih =>
    by_cases h : f c = true
    · simp [h, ih]
    · simp [h]
theorem head_app (r t : List UInt8) : (r ++ 32 :: t).head?.any ltr = r.head?.any ltr := by cases r <;> simp [ltr32]
theorem lexB_app (t : List UInt8) (l : List UInt8) (p : Nat) : lexB (l ++ 32 :: t) p = (lexB l p).then (lexB t (p + l.length + 1)) := by
  fun_induction lexB l p with
  | case1 p => rw [List.nil_append, lexB, if_pos (show UInt8.toNat 32 = 32 from rfl), Res.nil_then]; rfl
  | case2 p c r h ih =>
    rw [List.cons_append, lexB, if_pos h, ih]
    rw [show p + (c :: r).length + 1 = p + 1 + r.length + 1 from by simp only [List.length_cons]; omega]
  | case3 p c r h1 h2 h3 => rw [List.cons_append, lexB, if_neg h1, if_pos h2, tw_app _ dig32, if_pos h3]; rfl
  | case4 p c r h1 h2 h3 h4 => rw [List.cons_append, lexB, if_neg h1, if_pos h2, tw_app _ dig32, if_neg h3, dw_app _ dig32, head_app, if_pos h4]; rfl
  | case5 p c r h1 h2 h3 h4 ih =>
    rw [List.cons_append, lexB, if_neg h1, if_pos h2, tw_app _ dig32, if_neg h3, dw_app _ dig32, head_app, if_neg h4, ih, Res.then_cons]
    have := takeDrop dig r
    rw [show p + (c :: r).length + 1 = p + 1 + (r.takeWhile dig).length + (r.dropWhile dig).length + 1 from by simp only [List.length_cons]; omega]
  | case6 p c r h1 h2 h3 h4 => rw [List.cons_append, lexB, if_neg h1, if_neg h2, if_pos h3, tw_app _ aln32, if_pos h4]; rfl
  | case7 p c r h1 h2 h3 h4 ih =>
    rw [List.cons_append, lexB, if_neg h1, if_neg h2, if_pos h3, tw_app _ aln32, if_neg h4, dw_app _ aln32, ih, Res.then_cons]
    have := takeDrop aln r
    rw [show p + (c :: r).length + 1 = p + 1 + (r.takeWhile aln).length + (r.dropWhile aln).length + 1 from by simp only [List.length_cons]; omega]
  | case8 p c r h1 h2 h3 h4 ih =>
    rw [List.cons_append, lexB, if_neg h1, if_neg h2, if_neg h3, if_pos h4, ih, Res.then_cons]
    rw [show p + (c :: r).length + 1 = p + 1 + r.length + 1 from by simp only [List.length_cons]; omega]
  | case9 p c r h1 h2 h3 h4 => rw [List.cons_append, lexB, if_neg h1, if_neg h2, if_neg h3, if_neg h4]; rfl
theorem lexB_blanks (t : List UInt8) : ∀ (n p : Nat), lexB (List.replicate n 32 ++ t) p = lexB t (p + n)
  | 0, p => rfl
  | n + 1, p => by
    rw [List.replicate_succ, List.cons_append, lexB, if_pos (show UInt8.toNat 32 = 32 from rfl), lexB_blanks t n (p + 1)]
    congr 1; omega
end Go.Proofs.Ytfcndngnoognmaa.Lx
