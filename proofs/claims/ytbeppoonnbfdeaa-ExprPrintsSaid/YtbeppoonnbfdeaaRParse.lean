/- A part of the proof of the law: what functions of the program come to, walked by Rx, or plain facts on it. -/
import Derived.Test.YtbeppoonnbfdeaaRParse0
open Go Go.Rx Go.Proofs Go.Rx07.P Go.RxTree
set_option maxRecDepth 1000000
set_option maxHeartbeats 4000000
set_option linter.unusedVariables false
set_option linter.unusedSimpArgs false
namespace Go.Rx07.P
def sP (l : List W) (s : List UInt8) : Fr := (23, .ptr (.slot 22) 0) :: (5, .ptr (.slot 22) 0) :: (22, .ptr (.slot 22) 0) :: (21, .agg [.d (.list (l.map W.cells)), .d (.int .i64 0), .d (.int .i64 s.length)]) :: (20, .d (.int .i64 s.length)) :: (19, .d (.str s)) :: (18, .d (.list (l.map W.cells))) :: (sB l s).fr
theorem pk_P (s : List UInt8) (k : Nat) (l : List W) (er at' z : Int)
    (hp : icall Try.prog cfg k 21 [.ptr (.arg 0) 0, .d (.int .i64 1), .d (.int .i64 1)] (paZ l 0 s.length) = some ((.pan (.iface 28 (.agg [.d (.int .i64 er), .d (.int .i64 at')]))), paZ l z s.length)) {lp : LP} :
    codeK Try.prog cfg (icall Try.prog cfg k) lp Try.f10.ntmps rest10 (sB l s) some = some ((.pan (.iface 28 (.agg [.d (.int .i64 er), .d (.int .i64 at')]))), ⟨sP l s, (.slot 22, .cells [.d (.list (l.map W.cells)), .d (.int .i64 z), .d (.int .i64 s.length)]) :: (sB l s).H⟩) := by
  show codeK Try.prog cfg (icall Try.prog cfg k) lp Try.f10.ntmps rest10 ⟨[(17, .fn 20 [.ptr (.slot 2) 0, .ptr (.slot 3) 0]), (14, .d (.bool false)), (13, .d (.int .i64 0)), (12, .ptr (.slot 3) 0), (4, .d (.list (l.map W.cells))), (11, .agg [.d (.int .i64 0), .d (.int .i64 0)]), (10, .d (.list (l.map W.cells))), (7, .tuple [.d (.list (l.map W.cells)), .agg [.d (.int .i64 0), .d (.int .i64 0)]]), (9, .tuple [.d (.list (l.map W.cells)), .agg [.d (.int .i64 0), .d (.int .i64 0)]]), (8, .d (.str s)), (3, .ptr (.slot 3) 0), (2, .ptr (.slot 2) 0), (0, .d (.str s))], [(.slot 3, .cells [.d (.int .i64 0), .d (.int .i64 0)]), (.slot 3, .cells [.d (.int .i64 0), .d (.int .i64 0)]), (.slot 2, .cells [.d (.int .i64 0), .d (.int .i64 0), .d (.str []), .nilsl])]⟩ some = _
  conv => lhs; whnf
  refine nextK_of hp ?_
  kernel_rfl
theorem pk_fin (s : List UInt8) (k : Nat) (l : List W) (er at' z : Int) : finK k ((.pan (.iface 28 (.agg [.d (.int .i64 er), .d (.int .i64 at')]))), ⟨sP l s, (.slot 22, .cells [.d (.list (l.map W.cells)), .d (.int .i64 z), .d (.int .i64 s.length)]) :: (sB l s).H⟩) = some (.ret (.tuple [.agg [.d (.int .i64 0), .d (.int .i64 0), .d (.str []), .d (.list [])], .agg [.d (.int .i64 er), .d (.int .i64 at')]]), []) := by kernel_rfl
theorem pk_pan (s : List UInt8) (k : Nat) (l : List W) (er at' z : Int) (hs : icall Try.prog cfg k 19 [.d (.str s)] [] = some (.ret (.tuple [.d (.list (l.map W.cells)), .agg [.d (.int .i64 0), .d (.int .i64 0)]]), []))
    (hp : icall Try.prog cfg k 21 [.ptr (.arg 0) 0, .d (.int .i64 1), .d (.int .i64 1)] (paZ l 0 s.length) = some ((.pan (.iface 28 (.agg [.d (.int .i64 er), .d (.int .i64 at')]))), paZ l z s.length)) :
    parseK k [.d (.str s)] [] = some (.ret (.tuple [.agg [.d (.int .i64 0), .d (.int .i64 0), .d (.str []), .d (.list [])], .agg [.d (.int .i64 er), .d (.int .i64 at')]]), []) := by
  have h := pk_P s k l er at' z hp (lp := lpOf Try.prog cfg (icall Try.prog cfg k) Try.f10.ntmps 10 k [])
  rw [codeK_eq, bind_s] at h
  rw [pk_eq s k l hs, h, Option.bind_some, pk_fin]
def sM (l : List W) (s : List UInt8) (z : Int) (x : T) : Fr := (32, .ptr (.slot 22) 0) :: (31, .d (.bool (decide (z < ((l.map W.cells).length : Int))))) :: (30, .d (.int .i64 (l.map W.cells).length)) :: (29, .d (.list (l.map W.cells))) :: (28, .d (.int .i64 z)) :: (27, .ptr (.slot 22) 1) :: (26, .ptr (.slot 22) 0) :: (25, .ptr (.slot 22) 0) :: (24, .agg [.d (.int .i64 x.kind), .d (.int .i64 x.n), .d (.str x.name), .d (.list (cellsL x.kids))]) :: sP l s
def hM (l : List W) (s : List UInt8) (z : Int) (x : T) : Hp := ((.slot 22, .cells [.d (.list (l.map W.cells)), .d (.int .i64 z), .d (.int .i64 s.length)]) :: (.slot 2, .cells [.d (.int .i64 x.kind), .d (.int .i64 x.n), .d (.str x.name), .d (.list (cellsL x.kids))]) :: (.slot 3, .cells [.d (.int .i64 0), .d (.int .i64 0)]) :: (.slot 3, .cells [.d (.int .i64 0), .d (.int .i64 0)]) :: (.slot 2, .cells [.d (.int .i64 0), .d (.int .i64 0), .d (.str []), .nilsl]) :: [])
theorem pk_M (s : List UInt8) (k : Nat) (hk : 0 < k) (l : List W) (x : T) (j : Nat) (z : Int) (hz : z = (j : Int)) (hj : j < l.length) (hp : icall Try.prog cfg k 21 [.ptr (.arg 0) 0, .d (.int .i64 1), .d (.int .i64 1)] (paZ l 0 s.length) = some (.ret (.agg [.d (.int .i64 x.kind), .d (.int .i64 x.n), .d (.str x.name), .d (.list (cellsL x.kids))]), paZ l z s.length)) {lp : LP} :
    codeK Try.prog cfg (icall Try.prog cfg k) lp Try.f10.ntmps rest10 (sB l s) some = some (.pan (.iface 28 (.agg [.d (.int .i64 3), .d (.int .i64 (atL l j s.length))])), ⟨sM l s z x, hM l s z x⟩) := by
  have hl : (l.map W.cells).length = l.length := List.length_map ..
  have hf := fail22z l j z s.length hz 3 k hk
  have hz1 : z < ((l.map W.cells).length : Int) := by omega
  show codeK Try.prog cfg (icall Try.prog cfg k) lp Try.f10.ntmps rest10 ⟨[(17, .fn 20 [.ptr (.slot 2) 0, .ptr (.slot 3) 0]), (14, .d (.bool false)), (13, .d (.int .i64 0)), (12, .ptr (.slot 3) 0), (4, .d (.list (l.map W.cells))), (11, .agg [.d (.int .i64 0), .d (.int .i64 0)]), (10, .d (.list (l.map W.cells))), (7, .tuple [.d (.list (l.map W.cells)), .agg [.d (.int .i64 0), .d (.int .i64 0)]]), (9, .tuple [.d (.list (l.map W.cells)), .agg [.d (.int .i64 0), .d (.int .i64 0)]]), (8, .d (.str s)), (3, .ptr (.slot 3) 0), (2, .ptr (.slot 2) 0), (0, .d (.str s))], [(.slot 3, .cells [.d (.int .i64 0), .d (.int .i64 0)]), (.slot 3, .cells [.d (.int .i64 0), .d (.int .i64 0)]), (.slot 2, .cells [.d (.int .i64 0), .d (.int .i64 0), .d (.str []), .nilsl])]⟩ some = _
  conv => lhs; whnf
  refine nextK_of hp ?_
  conv => lhs; whnf
  refine iteK_dec_t hz1 ?_
  conv => lhs; whnf
  refine nextK_of hf ?_
  conv => lhs; whnf
  refine Eq.trans (b := some (Fx.pan (AV.iface (28 : Nat) (AV.agg [AV.d (D.int IntKind.i64 (3 : Int)), AV.d (D.int IntKind.i64 (atL l j ↑(List.length s)))])), St.mk [((32 : Nat), AV.ptr (Nm.slot (22 : Nat)) (0 : Nat)), ((31 : Nat), AV.d (D.bool (decide (z < ↑(List.length (List.map W.cells l)))))), ((30 : Nat), AV.d (D.int IntKind.i64 ↑(List.length (List.map W.cells l)))), ((29 : Nat), AV.d (D.list (List.map W.cells l))), ((28 : Nat), AV.d (D.int IntKind.i64 z)), ((27 : Nat), AV.ptr (Nm.slot (22 : Nat)) (1 : Nat)), ((26 : Nat), AV.ptr (Nm.slot (22 : Nat)) (0 : Nat)), ((25 : Nat), AV.ptr (Nm.slot (22 : Nat)) (0 : Nat)), ((24 : Nat), AV.agg [AV.d (D.int IntKind.i64 (T.kind x)), AV.d (D.int IntKind.i64 (T.n x)), AV.d (D.str (T.name x)), AV.d (D.list (cellsL (T.kids x)))]), ((23 : Nat), AV.ptr (Nm.slot (22 : Nat)) (0 : Nat)), ((5 : Nat), AV.ptr (Nm.slot (22 : Nat)) (0 : Nat)), ((22 : Nat), AV.ptr (Nm.slot (22 : Nat)) (0 : Nat)), ((21 : Nat), AV.agg [AV.d (D.list (List.map W.cells l)), AV.d (D.int IntKind.i64 (0 : Int)), AV.d (D.int IntKind.i64 ↑(List.length s))]), ((20 : Nat), AV.d (D.int IntKind.i64 ↑(List.length s))), ((19 : Nat), AV.d (D.str s)), ((18 : Nat), AV.d (D.list (List.map W.cells l))), ((17 : Nat), AV.fn (20 : Nat) [AV.ptr (Nm.slot (2 : Nat)) (0 : Nat), AV.ptr (Nm.slot (3 : Nat)) (0 : Nat)]), ((14 : Nat), AV.d (D.bool false)), ((13 : Nat), AV.d (D.int IntKind.i64 (0 : Int))), ((12 : Nat), AV.ptr (Nm.slot (3 : Nat)) (0 : Nat)), ((4 : Nat), AV.d (D.list (List.map W.cells l))), ((11 : Nat), AV.agg [AV.d (D.int IntKind.i64 (0 : Int)), AV.d (D.int IntKind.i64 (0 : Int))]), ((10 : Nat), AV.d (D.list (List.map W.cells l))), ((7 : Nat), AV.tuple [AV.d (D.list (List.map W.cells l)), AV.agg [AV.d (D.int IntKind.i64 (0 : Int)), AV.d (D.int IntKind.i64 (0 : Int))]]), ((9 : Nat), AV.tuple [AV.d (D.list (List.map W.cells l)), AV.agg [AV.d (D.int IntKind.i64 (0 : Int)), AV.d (D.int IntKind.i64 (0 : Int))]]), ((8 : Nat), AV.d (D.str s)), ((3 : Nat), AV.ptr (Nm.slot (3 : Nat)) (0 : Nat)), ((2 : Nat), AV.ptr (Nm.slot (2 : Nat)) (0 : Nat)), ((0 : Nat), AV.d (D.str s))] [(Nm.slot (22 : Nat), AObj.cells [AV.d (D.list (List.map W.cells l)), AV.d (D.int IntKind.i64 z), AV.d (D.int IntKind.i64 ↑(List.length s))]), (Nm.slot (2 : Nat), AObj.cells [AV.d (D.int IntKind.i64 (T.kind x)), AV.d (D.int IntKind.i64 (T.n x)), AV.d (D.str (T.name x)), AV.d (D.list (cellsL (T.kids x)))]), (Nm.slot (3 : Nat), AObj.cells [AV.d (D.int IntKind.i64 (0 : Int)), AV.d (D.int IntKind.i64 (0 : Int))]), (Nm.slot (3 : Nat), AObj.cells [AV.d (D.int IntKind.i64 (0 : Int)), AV.d (D.int IntKind.i64 (0 : Int))]), (Nm.slot (2 : Nat), AObj.cells [AV.d (D.int IntKind.i64 (0 : Int)), AV.d (D.int IntKind.i64 (0 : Int)), AV.d (D.str []), AV.nilsl])])) (by kernel_rfl) ?_
  rfl
theorem pk_finM (s : List UInt8) (k : Nat) (l : List W) (er at' z : Int) (x : T) : finK k ((.pan (.iface 28 (.agg [.d (.int .i64 er), .d (.int .i64 at')]))), ⟨sM l s z x, hM l s z x⟩) = some (.ret (.tuple [.agg [.d (.int .i64 0), .d (.int .i64 0), .d (.str []), .d (.list [])], .agg [.d (.int .i64 er), .d (.int .i64 at')]]), []) := by kernel_rfl
theorem pk_more (s : List UInt8) (k : Nat) (hk : 0 < k) (l : List W) (x : T) (j : Nat) (z : Int) (hz : z = (j : Int)) (hj : j < l.length) (hs : icall Try.prog cfg k 19 [.d (.str s)] [] = some (.ret (.tuple [.d (.list (l.map W.cells)), .agg [.d (.int .i64 0), .d (.int .i64 0)]]), [])) (hp : icall Try.prog cfg k 21 [.ptr (.arg 0) 0, .d (.int .i64 1), .d (.int .i64 1)] (paZ l 0 s.length) = some (.ret (.agg [.d (.int .i64 x.kind), .d (.int .i64 x.n), .d (.str x.name), .d (.list (cellsL x.kids))]), paZ l z s.length)) :
    parseK k [.d (.str s)] [] = some (.ret (.tuple [.agg [.d (.int .i64 0), .d (.int .i64 0), .d (.str []), .d (.list [])], .agg [.d (.int .i64 3), .d (.int .i64 (atL l j s.length))]]), []) := by
  have h := pk_M s k hk l x j z hz hj hp (lp := lpOf Try.prog cfg (icall Try.prog cfg k) Try.f10.ntmps 10 k [])
  rw [codeK_eq, bind_s] at h
  rw [pk_eq s k l hs, h, Option.bind_some, pk_finM]
/-- What is returned, alone. -/
noncomputable def finR' : Fx × St → Option (Res × Hp) := fun r => match r.1 with
  | .ret => finish Try.prog false Try.f10 [] (.ret, r.2)
  | _ => none
theorem fin_of {k : Nat} {o : Option (Fx × St)} {v : Res × Hp} (h : o.bind finR' = some v) : o.bind (finK k) = some v := by
  cases o with
  | none => cases h
  | some r =>
    obtain ⟨fx, st⟩ := r
    cases fx with
    | ret => exact h
    | norm => cases h
    | exit i => cases h
    | pan b => cases h
theorem pk_all (s : List UInt8) (k : Nat) (hk : 0 < k) (l : List W) (x : T) (j : Nat) (z c : Int) (hz : z = (j : Int)) (hj : l.length ≤ j) (hs : icall Try.prog cfg k 19 [.d (.str s)] [] = some (.ret (.tuple [.d (.list (l.map W.cells)), .agg [.d (.int .i64 0), .d (.int .i64 0)]]), [])) (hp : icall Try.prog cfg k 21 [.ptr (.arg 0) 0, .d (.int .i64 1), .d (.int .i64 1)] (paZ l 0 s.length) = some (.ret (.agg [.d (.int .i64 x.kind), .d (.int .i64 x.n), .d (.str x.name), .d (.list (cellsL x.kids))]), paZ l z s.length))
    (hc : icall Try.prog cfg k 16 [.agg [.d (.int .i64 x.kind), .d (.int .i64 x.n), .d (.str x.name), .d (.list (cellsL x.kids))]] [] = some (.ret (.d (.int .i64 c)), [])) :
    parseK k [.d (.str s)] [] = if c = 0 then some (.ret (.tuple [.agg [.d (.int .i64 x.kind), .d (.int .i64 x.n), .d (.str x.name), .d (.list (cellsL x.kids))], .agg [.d (.int .i64 0), .d (.int .i64 0)]]), []) else some (.ret (.tuple [.agg [.d (.int .i64 0), .d (.int .i64 0), .d (.str []), .d (.list [])], .agg [.d (.int .i64 c), .d (.int .i64 0)]]), []) := by
  have hl : (l.map W.cells).length = l.length := List.length_map ..
  have hz1 : ¬ z < ((l.map W.cells).length : Int) := by omega
  have key : (runCode Try.prog cfg (icall Try.prog cfg k) Try.f10.ntmps 10 k [] rest10 (sB l s)).bind finR' = if c = 0 then some (.ret (.tuple [.agg [.d (.int .i64 x.kind), .d (.int .i64 x.n), .d (.str x.name), .d (.list (cellsL x.kids))], .agg [.d (.int .i64 0), .d (.int .i64 0)]]), []) else some (.ret (.tuple [.agg [.d (.int .i64 0), .d (.int .i64 0), .d (.str []), .d (.list [])], .agg [.d (.int .i64 c), .d (.int .i64 0)]]), []) := by
    rw [← codeK_eq]
    obtain ⟨lp, hlp⟩ : ∃ lp, lp = lpOf Try.prog cfg (icall Try.prog cfg k) Try.f10.ntmps 10 k [] := ⟨_, rfl⟩
    rw [← hlp]
    show codeK Try.prog cfg (icall Try.prog cfg k) lp Try.f10.ntmps rest10 ⟨[(17, .fn 20 [.ptr (.slot 2) 0, .ptr (.slot 3) 0]), (14, .d (.bool false)), (13, .d (.int .i64 0)), (12, .ptr (.slot 3) 0), (4, .d (.list (l.map W.cells))), (11, .agg [.d (.int .i64 0), .d (.int .i64 0)]), (10, .d (.list (l.map W.cells))), (7, .tuple [.d (.list (l.map W.cells)), .agg [.d (.int .i64 0), .d (.int .i64 0)]]), (9, .tuple [.d (.list (l.map W.cells)), .agg [.d (.int .i64 0), .d (.int .i64 0)]]), (8, .d (.str s)), (3, .ptr (.slot 3) 0), (2, .ptr (.slot 2) 0), (0, .d (.str s))], [(.slot 3, .cells [.d (.int .i64 0), .d (.int .i64 0)]), (.slot 3, .cells [.d (.int .i64 0), .d (.int .i64 0)]), (.slot 2, .cells [.d (.int .i64 0), .d (.int .i64 0), .d (.str []), .nilsl])]⟩ _ = _
    conv => lhs; whnf
    refine nextK_of hp ?_
    conv => lhs; whnf
    refine iteK_dec_f hz1 ?_
    conv => lhs; whnf
    refine nextK_of hc ?_
    conv => lhs; whnf
    refine iteK_bne (fun h1 => ?_) (fun h1 => ?_)
    · rw [bne_t h1]
      conv => lhs; whnf
      refine Eq.trans (b := some (Res.ret (AV.tuple [AV.agg [AV.d (D.int IntKind.i64 (0 : Int)), AV.d (D.int IntKind.i64 (0 : Int)), AV.d (D.str []), AV.d (D.list [])], AV.agg [AV.d (D.int IntKind.i64 c), AV.d (D.int IntKind.i64 (0 : Int))]]), [])) (by kernel_rfl) ?_
      (rw [if_neg (by assumption)])
    · obtain rfl : c = (0 : Int) := h1
      conv => lhs; whnf
      refine Eq.trans (b := some (Res.ret (AV.tuple [AV.agg [AV.d (D.int IntKind.i64 (T.kind x)), AV.d (D.int IntKind.i64 (T.n x)), AV.d (D.str (T.name x)), AV.d (D.list (cellsL (T.kids x)))], AV.agg [AV.d (D.int IntKind.i64 (0 : Int)), AV.d (D.int IntKind.i64 (0 : Int))]]), [])) (by kernel_rfl) ?_
      rfl
  rw [pk_eq s k l hs]
  split
  · rename_i h; rw [if_pos h] at key; exact fin_of key
  · rename_i h; rw [if_neg h] at key; exact fin_of key
end Go.Rx07.P
