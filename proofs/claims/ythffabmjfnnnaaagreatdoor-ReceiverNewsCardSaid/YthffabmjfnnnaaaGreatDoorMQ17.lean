/- A receiver: what is thrown is caught; a text that is taken; what a push is answered. No condition of its own. -/
import Derived.Test.YthffabmjfnnnaaaGreatDoorMQ16
namespace Go.Kx.Re
open Go.Proofs Go.Kx Go.RowKit Go.Kx.Js Go.Kx.Pr Go.Kx.Rt Go.Kx.Ob Go.Kx.Wo Go.Kx.Cl Go.Kx.Pa Go.Kx.Su Go.Kx.Se Go.Kx.Jw Go.Kx.L13
set_option maxRecDepth 20000
set_option linter.unusedSimpArgs false
namespace Tk
def T : Tab := [(9, { k := TK.string, agg := false, size := 1, bytes := 16, zero := [Z.s] }), (28, { k := TK.st [(0, 9, 1), (1, 9, 1), (2, 9, 1), (3, 3, 1), (4, 9, 1), (5, 26, 3), (8, 3, 1), (9, 9, 1)], agg := true, size := 10, bytes := 144, zero := [Z.s, Z.s, Z.s, Z.i IntKind.i64, Z.s, Z.s, Z.s, Z.s, Z.i IntKind.i64, Z.s] }), (83, { k := TK.st [(0, 9, 1), (1, 9, 1), (2, 80, 1), (3, 36, 1), (4, 81, 1)], agg := true, size := 5, bytes := 72, zero := [Z.s, Z.s, Z.m, Z.sl, Z.m] }), (123, { k := TK.st [(0, 9, 1)], agg := true, size := 1, bytes := 16, zero := [Z.s] }), (80, { k := TK.map 9 32, agg := false, size := 1, bytes := 8, zero := [Z.m] }), (81, { k := TK.map 9 4, agg := false, size := 1, bytes := 8, zero := [Z.m] }), (4, { k := TK.bool, agg := false, size := 1, bytes := 1, zero := [Z.b] }), (36, { k := TK.slice 28, agg := false, size := 1, bytes := 24, zero := [Z.sl] }), (34, { k := TK.st [(0, 3, 1), (1, 32, 1)], agg := true, size := 2, bytes := 32, zero := [Z.i IntKind.i64, Z.sl] }), (77, { k := TK.st [(0, 3, 1), (1, 4, 1), (2, 9, 1), (3, 74, 1), (4, 75, 1)], agg := true, size := 5, bytes := 80, zero := [Z.i IntKind.i64, Z.b, Z.s, Z.sl, Z.sl] }), (107, { k := TK.st [(0, 9, 1), (1, 77, 5)], agg := true, size := 6, bytes := 96, zero := [Z.s, Z.i IntKind.i64, Z.b, Z.s, Z.sl, Z.sl] }), (75, { k := TK.slice 107, agg := false, size := 1, bytes := 24, zero := [Z.sl] }), (5, { k := TK.int IntKind.u8, agg := false, size := 1, bytes := 1, zero := [Z.i IntKind.u8] }), (32, { k := TK.slice 5, agg := false, size := 1, bytes := 24, zero := [Z.sl] }), (23, { k := TK.ptr 83, agg := false, size := 1, bytes := 8, zero := [Z.p] }), (63, { k := TK.func, agg := false, size := 1, bytes := 8, zero := [Z.fn] }), (40, { k := TK.int IntKind.i64, agg := false, size := 1, bytes := 8, zero := [Z.i IntKind.i64] }), (1, { k := TK.func, agg := false, size := 1, bytes := 8, zero := [Z.fn] }), (67, { k := TK.st [(0, 65, 2), (2, 32, 1), (3, 9, 1), (4, 32, 1)], agg := true, size := 5, bytes := 96, zero := [Z.s, Z.s, Z.sl, Z.s, Z.sl] }), (65, { k := TK.st [(0, 9, 1), (1, 9, 1)], agg := true, size := 2, bytes := 32, zero := [Z.s, Z.s] }), (89, { k := TK.st [(0, 87, 1), (1, 32, 1)], agg := true, size := 2, bytes := 32, zero := [Z.p, Z.sl] }), (87, { k := TK.ptr 89, agg := false, size := 1, bytes := 8, zero := [Z.p] }), (20, { k := TK.ifc, agg := false, size := 1, bytes := 16, zero := [Z.ifc] }), (3, { k := TK.int IntKind.i64, agg := false, size := 1, bytes := 8, zero := [Z.i IntKind.i64] }), (26, { k := TK.st [(0, 9, 1), (1, 9, 1), (2, 9, 1)], agg := true, size := 3, bytes := 48, zero := [Z.s, Z.s, Z.s] }), (74, { k := TK.slice 77, agg := false, size := 1, bytes := 24, zero := [Z.sl] })]
set_option maxRecDepth 100000 in
theorem tab : TabOk Tryz.prog T := tabOk_mk (ts := [9, 28, 83, 123, 80, 81, 4, 36, 34, 77, 107, 75, 5, 32, 23, 63, 40, 1, 67, 65, 89, 87, 20, 3, 26, 74]) (by kernel_rfl)
end Tk
def cB (c : Clm) : SB := .box 28 (csC c)
def sB (s : ByteArray) : SB := .box 9 [.val (.string s)]
theorem catchYes0 (nk : Nat) (f : Value → Option Value) (nn : Nat) (g : Value → Option Value) (iss aud nm : ByteArray) (H : Hp) : CallDO Tryz.prog 58 [.si (.ce (.ptr 3 0)), .si (.ce (.ptr 4 0))] (.panicking [⟨findV nm, false, false⟩]) H [.map .string nk f, .map .string nn g, nB iss aud, cB clm0, sB ⟨#[]⟩] fun u H' G' => u = .panicking [⟨findV nm, true, false⟩] ∧ H' = H ∧ G' = [.map .string nk f, .map .string nn g, nB iss aud, cB clm0, sB nm] := by
 refine CallDO.of_body Tk.tab Tryz.func58 rfl rfl rfl rfl (nt := Tryz.f58.ntmps) rfl (by kernel_rfl) ?_
 (conv => whnf)
 refine WS.draw Tk.tab mixed (.take 0 (.take 1 (.take 2 (.alt 3 (.alt 4 .done .no) .no)))) (by kernel_rfl) [3, 4] ?_
 (conv => whnf)
 repeat' (first
  | exact trivial
  | exact rfl
  | exact ⟨trivial, trivial, rfl, trivial⟩
  | exact ⟨rfl, rfl, rfl⟩
  | (refine And.intro ?_ ?_ <;> (conv => whnf)))
theorem catchYes1 (nk : Nat) (f : Value → Option Value) (nn : Nat) (g : Value → Option Value) (x : Clm) (L : List Clm) (iss aud nm : ByteArray) (H : Hp) : CallDO Tryz.prog 58 [.si (.ce (.ptr 4 0)), .si (.ce (.ptr 5 0))] (.panicking [⟨findV nm, false, false⟩]) H [.map .string nk f, .map .string nn g, rB iss aud (.self 3), cRow (x :: L), cB clm0, sB ⟨#[]⟩] fun u H' G' => u = .panicking [⟨findV nm, true, false⟩] ∧ H' = H ∧ G' = [.map .string nk f, .map .string nn g, rB iss aud (.self 3), cRow (x :: L), cB clm0, sB nm] := by
 refine CallDO.of_body Tk.tab Tryz.func58 rfl rfl rfl rfl (nt := Tryz.f58.ntmps) rfl (by kernel_rfl) ?_
 (conv => whnf)
 refine WS.draw Tk.tab mixed (.take 0 (.take 1 (.take 2 (.alt 3 (.alt 4 .done .no) .no)))) (by kernel_rfl) [4, 5] ?_
 (conv => whnf)
 repeat' (first
  | exact trivial
  | exact rfl
  | exact ⟨trivial, trivial, rfl, trivial⟩
  | exact ⟨rfl, rfl, rfl⟩
  | (refine And.intro ?_ ?_ <;> (conv => whnf)))
theorem catchNo0 (nk : Nat) (f : Value → Option Value) (nn : Nat) (g : Value → Option Value) (iss aud : ByteArray) (x : SB) (y : ByteArray) (H : Hp) : CallDO Tryz.prog 58 [.si (.ce (.ptr 3 0)), .si (.ce (.ptr 4 0))] .returning H [.map .string nk f, .map .string nn g, nB iss aud, x, sB y] fun u H' G' => u = .returning ∧ H' = H ∧ G' = [.map .string nk f, .map .string nn g, nB iss aud, x, sB y] := by
 refine CallDO.of_body Tk.tab Tryz.func58 rfl rfl rfl rfl (nt := Tryz.f58.ntmps) rfl (by kernel_rfl) ?_
 (conv => whnf)
 try split
 all_goals exact ⟨rfl, rfl, rfl⟩
theorem catchNo1 (nk : Nat) (f : Value → Option Value) (nn : Nat) (g : Value → Option Value) (z : Clm) (L : List Clm) (iss aud : ByteArray) (x : SB) (y : ByteArray) (H : Hp) : CallDO Tryz.prog 58 [.si (.ce (.ptr 4 0)), .si (.ce (.ptr 5 0))] .returning H [.map .string nk f, .map .string nn g, rB iss aud (.self 3), cRow (z :: L), x, sB y] fun u H' G' => u = .returning ∧ H' = H ∧ G' = [.map .string nk f, .map .string nn g, rB iss aud (.self 3), cRow (z :: L), x, sB y] := by
 refine CallDO.of_body Tk.tab Tryz.func58 rfl rfl rfl rfl (nt := Tryz.f58.ntmps) rfl (by kernel_rfl) ?_
 (conv => whnf)
 try split
 all_goals exact ⟨rfl, rfl, rfl⟩
def clE : Except ByteArray Clm → Clm
 | .ok c => c
 | .error _ => clm0
def nmE : Except ByteArray Clm → ByteArray
 | .ok _ => ⟨#[]⟩
 | .error nm => nm
theorem found_ (s iss aud : ByteArray) (hs : s.size ≤ 1000000) (K : ByteArray → Option (List UInt8)) (nk : Nat) (f : Value → Option Value) (nn : Nat) (g : Value → Option Value) (L : List Clm) (H : Hp) (hE : ErrH H) (hK : KeysM H f K) :
  CallO Tryz.prog 28 [.si (.ce (.fn (.func 29) 1 [(2, 0)])), pv (.string s)] H (reG iss aud nk f nn g L) fun e H' G' => e = .ret (.tu [.ag (csC (clE (lookP s iss aud K))), .ce (.val (.string (nmE (lookP s iss aud K))))]) ∧ H.Le H' ∧ G' = reG iss aud nk f nn g L := by
 have hl := look_ s iss aud hs K nk f nn g L H hE hK
 generalize lookP s iss aud K = X at hl ⊢
 cases L
 ·refine CallO.of_bodyD Tk.tab Tryz.func28 rfl (pre := [_]) rfl rfl rfl (nt := Tryz.f28.ntmps) rfl (by kernel_rfl) [4, 5] ?_
  (conv => whnf)
  refine ⟨⟨_, Tryz.func58, rfl, by kernel_rfl⟩, ?_⟩
  (conv => whnf)
  intro ds vs
  (conv => whnf)
  refine ⟨⟨_, Tryz.func29, rfl, by kernel_rfl⟩, CallS.use hl [0, 1, 2] rfl rfl ⟨rfl, rfl, rfl, trivial⟩ ?_⟩
  rintro e H2 G' hle2 ⟨hout, hle2', rfl⟩
  cases X with
  | error nm =>
   obtain rfl := hout
   (conv => whnf)
   refine CallDS.use (catchYes0 nk f nn g iss aud nm H2) ?_
   rintro u' H3 G' hle3 ⟨rfl, rfl, rfl⟩
   (conv => whnf)
   exact ⟨rfl, hle2, rfl⟩
  | ok c =>
   obtain rfl := hout
   (conv => whnf)
   refine CallDS.use (catchNo0 nk f nn g iss aud _ _ H2) ?_
   rintro u' H3 G' hle3 ⟨rfl, rfl, rfl⟩
   (conv => whnf)
   exact ⟨rfl, hle2, rfl⟩
 ·refine CallO.of_bodyD Tk.tab Tryz.func28 rfl (pre := [_]) rfl rfl rfl (nt := Tryz.f28.ntmps) rfl (by kernel_rfl) [4, 5] ?_
  (conv => whnf)
  refine ⟨⟨_, Tryz.func58, rfl, by kernel_rfl⟩, ?_⟩
  (conv => whnf)
  intro ds vs
  (conv => whnf)
  refine ⟨⟨_, Tryz.func29, rfl, by kernel_rfl⟩, CallS.use hl [0, 1, 2, 3] rfl rfl ⟨rfl, rfl, rfl, rfl, trivial⟩ ?_⟩
  rintro e H2 G' hle2 ⟨hout, hle2', rfl⟩
  cases X with
  | error nm =>
   obtain rfl := hout
   (conv => whnf)
   refine CallDS.use (catchYes1 nk f nn g _ _ iss aud nm H2) ?_
   rintro u' H3 G' hle3 ⟨rfl, rfl, rfl⟩
   (conv => whnf)
   exact ⟨rfl, hle2, rfl⟩
  | ok c =>
   obtain rfl := hout
   (conv => whnf)
   refine CallDS.use (catchNo1 nk f nn g _ _ iss aud _ _ H2) ?_
   rintro u' H3 G' hle3 ⟨rfl, rfl, rfl⟩
   (conv => whnf)
   exact ⟨rfl, hle2, rfl⟩
theorem lookG (s iss aud : ByteArray) (hs : s.size ≤ 1000000) (K : ByteArray → Option (List UInt8)) (nk : Nat) (f : Value → Option Value) (nn : Nat) (g : Value → Option Value) (L : List Clm) (H : Hp) (hE : ErrH H) (hK : KeysM H f K) :
  CallO Tryz.prog 10 [meR, pv (.string s)] H (reG iss aud nk f nn g L) fun e H' G' => e = .ret (.tu [.ag (csC (clE (lookP s iss aud K))), .ce (.val (.string (nmE (lookP s iss aud K))))]) ∧ H.Le H' ∧ G' = reG iss aud nk f nn g L := by
 have hl := found_ s iss aud hs K nk f nn g L H hE hK
 generalize lookP s iss aud K = X at hl ⊢
 cases L
 ·refine CallO.of_body Tk.tab Tryz.func10 rfl (nt := Tryz.f10.ntmps) rfl (by kernel_rfl) ?_
  (conv => whnf)
  refine ⟨⟨_, Tryz.func28, rfl, by kernel_rfl⟩, CallS.use hl [0, 1, 2] rfl rfl ⟨rfl, rfl, rfl, trivial⟩ ?_⟩
  rintro e H2 G' hle2 ⟨rfl, hle2', rfl⟩
  (conv => whnf)
  exact ⟨rfl, hle2, rfl⟩
 ·refine CallO.of_body Tk.tab Tryz.func10 rfl (nt := Tryz.f10.ntmps) rfl (by kernel_rfl) ?_
  (conv => whnf)
  refine ⟨⟨_, Tryz.func28, rfl, by kernel_rfl⟩, CallS.use hl [0, 1, 2, 3] rfl rfl ⟨rfl, rfl, rfl, rfl, trivial⟩ ?_⟩
  rintro e H2 G' hle2 ⟨rfl, hle2', rfl⟩
  (conv => whnf)
  exact ⟨rfl, hle2, rfl⟩
def reH (iss aud : ByteArray) (nk : Nat) (f : Value → Option Value) (nn : Nat) (g : Value → Option Value) (L : List Clm) : List SB :=
 [.map .string nk f, .map .string nn g, rB iss aud (.self 4), .dead, cRow L]
def NamesM (g : Value → Option Value) (L : List Clm) : Prop := ∀ j, g (.string j) = if L.any (fun d => decide (d.jti = j)) = true then some (.bool true) else none
def takeP (L : List Clm) : Except ByteArray Clm → List Clm
 | .ok c => if L.any (fun d => decide (d.jti = c.jti)) = true then L else L ++ [c]
 | .error _ => L
theorem look_err {s iss aud nm : ByteArray} {K : ByteArray → Option (List UInt8)} (h : lookP s iss aud K = .error nm) : nm = sReq ∨ nm = sKey ∨ nm = sFail ∨ nm = sIssr ∨ nm = sAudc := by
 unfold lookP at h
 split at h
 ·injection h with h; exact .inl h.symm
 ·split at h
  ·injection h with h; exact .inr (.inl h.symm)
  ·split at h
   ·split at h
    ·injection h with h; exact .inr (.inr (.inl h.symm))
    ·injection h with h; exact .inl h.symm
   ·split at h
    ·injection h with h; exact .inr (.inr (.inr (.inl h.symm)))
    ·split at h
     ·injection h with h; exact .inr (.inr (.inr (.inr h.symm)))
     ·cases h
theorem NamesM.push {g : Value → Option Value} {L : List Clm} (h : NamesM g L) (c : Clm) : NamesM (updM g (.string c.jti) (.bool true)) (L ++ [c]) := by
 intro j
 rw [List.any_append]
 by_cases he : c.jti = j
 ·subst he
  rw [updM_self]
  simp
 ·rw [updM_ne _ (fun e => he (by injection e with e; exact e.symm)), h j]
  simp [he]
theorem cellsC_one (c : Clm) : ∀ u ∈ cellsC c, u.oneCell' = true := by
 intro u hu
 simp only [cellsC, List.mem_cons, List.not_mem_nil, or_false] at hu
 rcases hu with rfl | rfl | rfl | rfl | rfl | rfl | rfl | rfl | rfl | rfl <;> rfl
theorem take0 (s iss aud : ByteArray) (c : Clm) (nk : Nat) (f : Value → Option Value) (nn : Nat) (g : Value → Option Value) (hg : g (.string c.jti) = none) (H : Hp)
  (hl : CallO Tryz.prog 10 [meR, pv (.string s)] H (reG iss aud nk f nn g []) fun e H' G' => e = .ret (.tu [.ag (csC c), .ce (.val (.string ⟨#[]⟩))]) ∧ H.Le H' ∧ G' = reG iss aud nk f nn g []) :
  CallO Tryz.prog 32 [meR, pv (.string s)] H (reG iss aud nk f nn g []) fun e H' G' => e = .ret (pv (.string ⟨#[]⟩)) ∧ H.Le H' ∧ ∃ x, G' = [.map .string nk f, .map .string (nn + 1) (updM g (.string c.jti) (.bool true)), rB iss aud (.self 4), x, cRow [c]] := by
 refine CallO.of_body Tk.tab Tryz.func32 rfl (nt := Tryz.f32.ntmps) rfl (by kernel_rfl) ?_
 (conv => whnf)
 refine ⟨⟨_, Tryz.func10, rfl, by kernel_rfl⟩, ?_⟩
 refine CallS.use hl [0, 1, 2] rfl rfl ⟨rfl, rfl, rfl, trivial⟩ ?_; rintro e H2 G' hle2 ⟨rfl, hle2', rfl⟩; (conv => whnf)
 refine WS.draw Tk.tab mixed (.take 0 (.take 1 (.take 2 (.take 3 (.take 4 (.take 5 (.take 6 (.take 7 (.take 8 (.take 9 (.take 10 (.take 11 .done)))))))))))) (by kernel_rfl) [] ?_
 (conv => whnf)
 refine ⟨_, hg, ?_⟩
 (conv => whnf)
 refine WS.draw Tk.tab mixed (.take 0 (.take 1 (.take 2 (.take 3 (.take 4 (.take 5 (.alt 6 .done .no))))))) (by kernel_rfl) [1] ?_
 (conv => whnf)
 refine And.intro ?_ ?_ <;> (conv => whnf)
 rotate_left
 ·exact trivial
 refine ⟨fun _ => ?_, fun h => absurd hg h⟩
 (conv => whnf)
 refine ⟨⟨rfl, trivial, rfl, rfl, trivial⟩, ?_⟩
 (conv => whnf)
 refine WS.draw Tk.tab mixed (.take 0 (.take 1 (.take 2 (.take 3 (.take 5 (.alt 4 (.alt 6 (.alt 7 (.take 8 (.take 9 (.alt 10 .done .no))) .no) .no) (.alt 6 (.alt 4 (.alt 7 (.take 8 (.take 9 (.alt 10 .done .no))) .no) .no) .no))))))) (by kernel_rfl) [2] ?_
 (conv => whnf)
 repeat' (first
  | exact trivial
  | exact rfl
  | (refine ⟨by decide, .inl ?_⟩; intro g1 H4 hle4 hrd; (conv => whnf))
  | (refine And.intro ?_ ?_ <;> (conv => whnf)))
 all_goals
  refine ⟨cellsC c, ?_, hrd, cellsC_one c, ?_⟩
  ·rfl
  (conv => whnf)
  refine ⟨by decide, ?_⟩
  (conv => whnf)
  repeat' (first
   | exact trivial
   | exact rfl
   | exact ⟨rfl, hle2.trans hle4, _, rfl⟩
   | (refine And.intro ?_ ?_ <;> (conv => whnf)))
theorem take1 (s iss aud : ByteArray) (c : Clm) (nk : Nat) (f : Value → Option Value) (nn : Nat) (g : Value → Option Value) (d : Clm) (L : List Clm) (hL : L.length ≤ 1000) (hg : g (.string c.jti) = none) (H : Hp)
  (hl : CallO Tryz.prog 10 [meR, pv (.string s)] H (reG iss aud nk f nn g (d :: L)) fun e H' G' => e = .ret (.tu [.ag (csC c), .ce (.val (.string ⟨#[]⟩))]) ∧ H.Le H' ∧ G' = reG iss aud nk f nn g (d :: L)) :
  CallO Tryz.prog 32 [meR, pv (.string s)] H (reG iss aud nk f nn g (d :: L)) fun e H' G' => e = .ret (pv (.string ⟨#[]⟩)) ∧ H.Le H' ∧ ∃ x y, G' = [.map .string nk f, .map .string (nn + 1) (updM g (.string c.jti) (.bool true)), rB iss aud (.self 5), x, y, .row 28 10 ((d :: L).length + 1) ((d :: L).flatMap cellsC ++ cellsC c)] := by
 refine CallO.of_body Tk.tab Tryz.func32 rfl (nt := Tryz.f32.ntmps) rfl (by kernel_rfl) ?_
 (conv => whnf)
 refine ⟨⟨_, Tryz.func10, rfl, by kernel_rfl⟩, ?_⟩
 refine CallS.use hl [0, 1, 2, 3] rfl rfl ⟨rfl, rfl, rfl, rfl, trivial⟩ ?_; rintro e H2 G' hle2 ⟨rfl, hle2', rfl⟩; (conv => whnf)
 refine WS.draw Tk.tab mixed (.take 0 (.take 1 (.take 2 (.take 3 (.take 4 (.take 5 (.take 6 (.take 7 (.take 8 (.take 9 (.take 10 (.take 11 .done)))))))))))) (by kernel_rfl) [] ?_
 (conv => whnf)
 refine ⟨_, hg, ?_⟩
 (conv => whnf)
 refine WS.draw Tk.tab mixed (.take 0 (.take 1 (.take 2 (.take 3 (.take 4 (.take 5 (.alt 6 .done .no))))))) (by kernel_rfl) [1] ?_
 (conv => whnf)
 refine And.intro ?_ ?_ <;> (conv => whnf)
 rotate_left
 ·exact trivial
 refine ⟨fun _ => ?_, fun h => absurd hg h⟩
 (conv => whnf)
 refine ⟨⟨rfl, trivial, rfl, rfl, rfl, trivial⟩, ?_⟩
 (conv => whnf)
 refine WS.draw Tk.tab mixed (.take 0 (.take 1 (.take 2 (.take 3 (.take 5 (.alt 4 (.alt 6 (.alt 7 (.take 8 (.take 9 (.alt 10 .done .no))) .no) .no) (.alt 6 (.alt 4 (.alt 7 (.take 8 (.take 9 (.alt 10 .done .no))) .no) .no) .no))))))) (by kernel_rfl) [2, 3] ?_
 (conv => whnf)
 repeat' (first
  | exact trivial
  | exact rfl
  | (refine ⟨by decide, .inl ?_⟩; intro g1 H4 hle4 hrd; (conv => whnf))
  | (refine And.intro ?_ ?_ <;> (conv => whnf)))
 all_goals
  refine ⟨cellsC c, ?_, hrd, cellsC_one c, ?_⟩
  ·rfl
  (conv => whnf)
  refine ⟨by show (_ + 1) * 145 ≤ _; simp only [List.length_cons]; omega, ?_⟩
  (conv => whnf)
  repeat' (first
   | exact trivial
   | exact rfl
   | exact ⟨rfl, hle2.trans hle4, _, _, rfl⟩
   | (refine And.intro ?_ ?_ <;> (conv => whnf)))
theorem take_ (s iss aud : ByteArray) (hs : s.size ≤ 1000000) (K : ByteArray → Option (List UInt8)) (nk : Nat) (f : Value → Option Value) (nn : Nat) (g : Value → Option Value) (L : List Clm) (hL : L.length ≤ 1000) (hN : NamesM g L) (H : Hp) (hE : ErrH H) (hK : KeysM H f K) :
  CallO Tryz.prog 32 [meR, pv (.string s)] H (reG iss aud nk f nn g L) fun e H' G' => e = .ret (pv (.string (nmE (lookP s iss aud K)))) ∧ H.Le H' ∧ ∃ nn' g', NamesM g' (takeP L (lookP s iss aud K)) ∧ (G' = reG iss aud nk f nn' g' (takeP L (lookP s iss aud K)) ∨ ((L ≠ [] ∧ ∃ c, lookP s iss aud K = .ok c) ∧ G' = reH iss aud nk f nn' g' (takeP L (lookP s iss aud K)))) := by
 have hl := lookG s iss aud hs K nk f nn g L H hE hK
 have her := fun nm => look_err (s := s) (iss := iss) (aud := aud) (K := K) (nm := nm)
 generalize lookP s iss aud K = X at hl her ⊢
 cases X with
 | error nm =>
  have hnm := her nm rfl
  dsimp only [nmE, clE] at hl ⊢
  have hne : strEq nm ⟨#[]⟩ = false := by rcases hnm with h | h | h | h | h <;> subst h <;> decide +kernel
  cases L
  all_goals
   refine CallO.of_body Tk.tab Tryz.func32 rfl (nt := Tryz.f32.ntmps) rfl (by kernel_rfl) ?_
   (conv => whnf)
   refine ⟨⟨_, Tryz.func10, rfl, by kernel_rfl⟩, ?_⟩
   first
    | (refine CallS.use hl [0, 1, 2] rfl rfl ⟨rfl, rfl, rfl, trivial⟩ ?_; rintro e H2 G' hle2 ⟨rfl, hle2', rfl⟩; (conv => whnf))
    | (refine CallS.use hl [0, 1, 2, 3] rfl rfl ⟨rfl, rfl, rfl, rfl, trivial⟩ ?_; rintro e H2 G' hle2 ⟨rfl, hle2', rfl⟩; (conv => whnf))
   refine WS.draw Tk.tab mixed (.take 0 (.take 1 (.take 2 (.take 3 (.take 4 (.take 5 (.take 6 (.take 7 (.take 8 (.take 9 (.take 10 (.take 11 .done)))))))))))) (by kernel_rfl) [] ?_
   (conv => whnf)
   repeat' (first
    | exact trivial
    | exact rfl
    | (rw [hne]; (conv => whnf))
    | exact ⟨rfl, hle2, nn, g, hN, .inl rfl⟩
    | (refine And.intro ?_ ?_ <;> (conv => whnf)))
 | ok c =>
  dsimp only [nmE, clE] at hl ⊢
  have hg := hN c.jti
  split at hg
  ·rename_i hany
   have htk : takeP L (.ok c) = L := if_pos hany
   rw [htk]
   cases L
   all_goals
    refine CallO.of_body Tk.tab Tryz.func32 rfl (nt := Tryz.f32.ntmps) rfl (by kernel_rfl) ?_
    (conv => whnf)
    refine ⟨⟨_, Tryz.func10, rfl, by kernel_rfl⟩, ?_⟩
    first
     | (refine CallS.use hl [0, 1, 2] rfl rfl ⟨rfl, rfl, rfl, trivial⟩ ?_; rintro e H2 G' hle2 ⟨rfl, hle2', rfl⟩; (conv => whnf))
     | (refine CallS.use hl [0, 1, 2, 3] rfl rfl ⟨rfl, rfl, rfl, rfl, trivial⟩ ?_; rintro e H2 G' hle2 ⟨rfl, hle2', rfl⟩; (conv => whnf))
    refine WS.draw Tk.tab mixed (.take 0 (.take 1 (.take 2 (.take 3 (.take 4 (.take 5 (.take 6 (.take 7 (.take 8 (.take 9 (.take 10 (.take 11 .done)))))))))))) (by kernel_rfl) [] ?_
    (conv => whnf)
    refine ⟨_, hg, ?_⟩
    (conv => whnf)
    repeat' (first
     | exact trivial
     | exact rfl
     | exact ⟨_, hg, (by (conv => whnf); exact rfl)⟩
     | exact ⟨rfl, hle2, nn, g, hN, .inl rfl⟩
     | (refine And.intro ?_ ?_ <;> (conv => whnf)))
  ·rename_i hany
   have htk : takeP L (.ok c) = L ++ [c] := if_neg hany
   rw [htk]
   have hN2 := hN.push c
   cases L
   ·refine CallO.sub (take0 s iss aud c nk f nn g hg H hl) ?_
    rintro e H' G' hle ⟨rfl, hle2, x, rfl⟩
    exact ⟨_, reG iss aud nk f (nn + 1) (updM g (.string c.jti) (.bool true)) [c], [0, 1, 2, 4], rfl, ⟨rfl, rfl, rfl, rfl, trivial⟩, rfl, rfl, hle2, nn + 1, _, hN2, .inl rfl⟩
   ·rename_i d L
    refine CallO.sub (take1 s iss aud c nk f nn g d L (by simp at hL; omega) hg H hl) ?_
    rintro e H' G' hle ⟨rfl, hle2, x, y, rfl⟩
    have hrow : cRow (d :: L ++ [c]) = .row 28 10 ((d :: L).length + 1) ((d :: L).flatMap cellsC ++ cellsC c) := by
     unfold cRow
     rw [List.length_append, List.flatMap_append]
     rfl
    refine ⟨_, reH iss aud nk f (nn + 1) (updM g (.string c.jti) (.bool true)) (d :: L ++ [c]), [0, 1, 2, 3, 5], rfl, ⟨rfl, rfl, rfl, trivial, ?_, trivial⟩, rfl, rfl, hle2, nn + 1, _, hN2, .inr ⟨⟨(nomatch ·), _, rfl⟩, rfl⟩⟩
    rw [hrow]
    exact rfl
end Go.Kx.Re
namespace Go.Kx.Re
open Go.Proofs Go.Kx Go.RowKit Go.Kx.Js Go.Kx.Pr Go.Kx.Rt Go.Kx.Ob Go.Kx.Wo Go.Kx.Cl Go.Kx.Pa Go.Kx.Su Go.Kx.Se Go.Kx.Jw Go.Kx.L13
set_option maxRecDepth 20000
set_option linter.unusedSimpArgs false
def sErr : ByteArray := ⟨#[101, 114, 114]⟩
def errJ (nm : ByteArray) : J := objJ [(sErr, strJ nm)]
theorem said_ (nm : ByteArray) (H : Hp) : CallO Tryz.prog 34 [pv (.string nm)] H [] fun e H' G' => (∃ B d, e = .ret (agJ 6 false ⟨#[]⟩ none 0 0 B 1 d) ∧ JAt H' (errJ nm) [.int .i64 6, .bool false, .string ⟨#[]⟩, .slice none 0 0, .slice B 1 d]) ∧ H.Le H' ∧ G' = [] := by
 refine CallO.of_body Tk.tab Tryz.func34 rfl (nt := Tryz.f34.ntmps) rfl (by kernel_rfl) ?_
 (conv => whnf)
 refine ⟨⟨_, Tryz.func48, rfl, by kernel_rfl⟩, CallS.use (Ob.str_ nm H) [] rfl rfl trivial ?_⟩
 rintro e H2 G' hle2 ⟨rfl, rfl, rfl⟩
 (conv => whnf)
 refine ⟨⟨_, Tryz.func47, rfl, by kernel_rfl⟩, ?_⟩
 have hm : CallO Tryz.prog 47 [pv (.string sErr), agJ 4 false nm none 0 0 none 0 0] H2 [] fun e H' G' => e = .ret (.si (.ag [.val (.string sErr), .val (.int .i64 4), .val (.bool false), .val (.string nm), .val (.slice none 0 0), .val (.slice none 0 0)])) ∧ H' = H2 ∧ G' = [] := by
  refine CallO.of_body Tk.tab Tryz.func47 rfl (nt := Tryz.f47.ntmps) rfl (by kernel_rfl) ?_
  (conv => whnf)
  exact ⟨rfl, rfl, rfl⟩
 refine CallS.use hm [] rfl rfl trivial ?_
 rintro e H3 G' hle3 ⟨rfl, rfl, rfl⟩
 (conv => whnf)
 refine ⟨by decide, .inl ?_⟩
 intro g2 H8 hle8 hrd2
 (conv => whnf)
 have hms8 : MsAt H8 [(sErr, strJ nm)] [.string sErr, .int .i64 4, .bool false, .string nm, .slice none 0 0, .slice none 0 0] := .cons (.bare 4 false nm) .nil
 refine ⟨⟨_, Tryz.func46, rfl, by kernel_rfl⟩, CallS.use (obj_ [(sErr, strJ nm)] (Nat.le_of_ble_eq_true rfl) (some ⟨g2, 0, none⟩) 1 _ H8 hms8 ⟨fun e => (nomatch e), fun a e => by injection e with e; subst e; exact hrd2⟩ Nat.zero_lt_one) [] rfl rfl trivial ?_⟩
 rintro e H9 G' hle9 ⟨⟨B3, d3, rfl, hj⟩, rfl⟩
 (conv => whnf)
 exact ⟨⟨_, _, rfl, hj⟩, hle8.trans hle9, rfl⟩
def RAns (x : Except ByteArray Clm) (e : SE) (H' : Hp) : Prop := match x with
 | .ok _ => e = .ret (.si (.ag [.val (.int .i64 202), .val (.slice none 0 0)]))
 | .error nm => ∃ A n c, e = .ret (.si (.ag [.val (.int .i64 400), .val (.slice A n c)])) ∧ BytesAt H' A n (wrJ (errJ nm))
theorem err_print {nm : ByteArray} (h : nm = sReq ∨ nm = sKey ∨ nm = sFail ∨ nm = sIssr ∨ nm = sAudc) : smJ (errJ nm) ∧ 6 * (wrJ (errJ nm)).length ≤ 8000000 ∧ printP (errJ nm) = (⟨(wrJ (errJ nm)).toArray⟩, 0) ∧ (wrJ (errJ nm)).length ≤ 100 ∧ strEq nm ⟨#[]⟩ = false := by
 rcases h with rfl | rfl | rfl | rfl | rfl
 all_goals
  refine ⟨Ro.sm_of _ (by decide +kernel), by decide +kernel, ?_, by decide +kernel, by decide +kernel⟩
  unfold printP
  rw [if_pos (by decide +kernel)]
theorem pushN (s iss aud : ByteArray) (c : Clm) (nk : Nat) (f : Value → Option Value) (nn : Nat) (g : Value → Option Value) (H : Hp)
  (hl : CallO Tryz.prog 32 [meR, pv (.string s)] H (reG iss aud nk f nn g []) fun e H' G' => e = .ret (pv (.string ⟨#[]⟩)) ∧ H.Le H' ∧ ∃ nn' g', NamesM g' [c] ∧ G' = reG iss aud nk f nn' g' [c]) :
  CallO Tryz.prog 12 [meR, pv (.string s)] H (reG iss aud nk f nn g []) fun e H' G' => e = .ret (.si (.ag [.val (.int .i64 202), .val (.slice none 0 0)])) ∧ H.Le H' ∧ ∃ nn' g' x, NamesM g' [c] ∧ G' = [.map .string nk f, .map .string nn' g', rB iss aud (.self 4), x, cRow [c]] := by
 refine CallO.of_body Tk.tab Tryz.func12 rfl (nt := Tryz.f12.ntmps) rfl (by kernel_rfl) ?_
 (conv => whnf)
 refine ⟨⟨_, Tryz.func32, rfl, by kernel_rfl⟩, ?_⟩
 refine CallS.use hl [0, 1, 2] rfl rfl ⟨rfl, rfl, rfl, trivial⟩ ?_
 rintro e H2 G' hle2 ⟨rfl, hle2', nn', g', hN', rfl⟩
 (conv => whnf)
 exact ⟨rfl, hle2, nn', g', _, hN', rfl⟩
theorem pushS (s iss aud : ByteArray) (c0 d : Clm) (L L' : List Clm) (hne : L' ≠ []) (nk : Nat) (f : Value → Option Value) (nn : Nat) (g : Value → Option Value) (H : Hp)
  (hl : CallO Tryz.prog 32 [meR, pv (.string s)] H (reG iss aud nk f nn g (d :: L)) fun e H' G' => e = .ret (pv (.string ⟨#[]⟩)) ∧ H.Le H' ∧ ∃ nn' g', NamesM g' L' ∧ (G' = reG iss aud nk f nn' g' L' ∨ ((d :: L ≠ [] ∧ ∃ c : Clm, Except.ok (ε := ByteArray) c0 = .ok c) ∧ G' = reH iss aud nk f nn' g' L'))) :
  CallO Tryz.prog 12 [meR, pv (.string s)] H (reG iss aud nk f nn g (d :: L)) fun e H' G' => e = .ret (.si (.ag [.val (.int .i64 202), .val (.slice none 0 0)])) ∧ H.Le H' ∧ ∃ nn' g', NamesM g' L' ∧ (G' = reG iss aud nk f nn' g' L' ∨ ∃ x, G' = [.map .string nk f, .map .string nn' g', rB iss aud (.self 5), .dead, x, cRow L']) := by
 refine CallO.of_body Tk.tab Tryz.func12 rfl (nt := Tryz.f12.ntmps) rfl (by kernel_rfl) ?_
 (conv => whnf)
 refine ⟨⟨_, Tryz.func32, rfl, by kernel_rfl⟩, ?_⟩
 refine CallS.use hl [0, 1, 2, 3] rfl rfl ⟨rfl, rfl, rfl, rfl, trivial⟩ ?_
 rintro e H2 G' hle2 ⟨rfl, hle2', nn', g', hN', hG⟩
 rcases hG with rfl | ⟨_, rfl⟩
 ·cases L' with
  | nil => exact absurd rfl hne
  | cons d' L' =>
   (conv => whnf)
   exact ⟨rfl, hle2, nn', g', hN', .inl rfl⟩
 ·(conv => whnf)
  exact ⟨rfl, hle2, nn', g', hN', .inr ⟨_, rfl⟩⟩
theorem take_ne {d : Clm} {L : List Clm} (X : Except ByteArray Clm) : takeP (d :: L) X ≠ [] := by
 cases X with
 | error => exact (nomatch ·)
 | ok c =>
  unfold takeP
  dsimp only
  split <;> exact (nomatch ·)
theorem push_ (s iss aud : ByteArray) (hs : s.size ≤ 1000000) (K : ByteArray → Option (List UInt8)) (nk : Nat) (f : Value → Option Value) (nn : Nat) (g : Value → Option Value) (L : List Clm) (hL : L.length ≤ 1000) (hN : NamesM g L) (H : Hp) (hE : ErrH H) (hK : KeysM H f K) :
  CallO Tryz.prog 12 [meR, pv (.string s)] H (reG iss aud nk f nn g L) fun e H' G' => RAns (lookP s iss aud K) e H' ∧ H.Le H' ∧ ∃ nn' g', NamesM g' (takeP L (lookP s iss aud K)) ∧ (G' = reG iss aud nk f nn' g' (takeP L (lookP s iss aud K)) ∨ ((L ≠ [] ∧ ∃ c, lookP s iss aud K = .ok c) ∧ G' = reH iss aud nk f nn' g' (takeP L (lookP s iss aud K)))) := by
 have hl := take_ s iss aud hs K nk f nn g L hL hN H hE hK
 have her := fun nm => look_err (s := s) (iss := iss) (aud := aud) (K := K) (nm := nm)
 generalize lookP s iss aud K = X at hl her ⊢
 cases X with
 | error nm =>
  obtain ⟨q1, q2, q3, q4, q5⟩ := err_print (her nm rfl)
  have htk : takeP L (.error nm) = L := rfl
  dsimp only [nmE] at hl
  rw [htk] at hl ⊢
  cases L
  ·refine CallO.of_body Tk.tab Tryz.func12 rfl (nt := Tryz.f12.ntmps) rfl (by kernel_rfl) ?_
   (conv => whnf)
   refine ⟨⟨_, Tryz.func32, rfl, by kernel_rfl⟩, ?_⟩
   refine CallS.use hl [0, 1, 2] rfl rfl ⟨rfl, rfl, rfl, trivial⟩ ?_
   rintro e H2 G' hle2 ⟨rfl, hle2', nn', g', hN', hG⟩
   obtain rfl := hG.resolve_right (fun h => h.1.1 rfl)
   (conv => whnf)
   rw [q5]
   (conv => whnf)
   refine ⟨⟨_, Tryz.func34, rfl, by kernel_rfl⟩, CallS.use (said_ nm H2) [] rfl rfl trivial ?_⟩
   rintro e H3 G' hle3 ⟨⟨B, d, rfl, hj⟩, hle3', rfl⟩
   (conv => whnf)
   have hp := print_ (errJ nm) q1 q2 _ _ _ _ _ _ _ _ _ H3 hj
   rw [q3] at hp
   refine ⟨⟨_, Tryz.func33, rfl, by kernel_rfl⟩, CallS.use hp [] rfl rfl trivial ?_⟩
   rintro e H4 G' hle4 ⟨rfl, hle4', rfl⟩
   (conv => whnf)
   intro g1 cap H5 hle5 hcap hrd
   rw [bs_cells] at hrd
   (conv => whnf)
   exact ⟨⟨_, _, _, rfl, .lit (bs_size _) hrd⟩, (((hle2.trans hle3).trans hle4).trans hle5), nn', g', hN', .inl rfl⟩
  ·refine CallO.of_body Tk.tab Tryz.func12 rfl (nt := Tryz.f12.ntmps) rfl (by kernel_rfl) ?_
   (conv => whnf)
   refine ⟨⟨_, Tryz.func32, rfl, by kernel_rfl⟩, ?_⟩
   refine CallS.use hl [0, 1, 2, 3] rfl rfl ⟨rfl, rfl, rfl, rfl, trivial⟩ ?_
   rintro e H2 G' hle2 ⟨rfl, hle2', nn', g', hN', hG⟩
   obtain rfl := hG.resolve_right (fun h => by obtain ⟨⟨_, c, hc⟩, _⟩ := h; cases hc)
   (conv => whnf)
   rw [q5]
   (conv => whnf)
   refine ⟨⟨_, Tryz.func34, rfl, by kernel_rfl⟩, CallS.use (said_ nm H2) [] rfl rfl trivial ?_⟩
   rintro e H3 G' hle3 ⟨⟨B, d, rfl, hj⟩, hle3', rfl⟩
   (conv => whnf)
   have hp := print_ (errJ nm) q1 q2 _ _ _ _ _ _ _ _ _ H3 hj
   rw [q3] at hp
   refine ⟨⟨_, Tryz.func33, rfl, by kernel_rfl⟩, CallS.use hp [] rfl rfl trivial ?_⟩
   rintro e H4 G' hle4 ⟨rfl, hle4', rfl⟩
   (conv => whnf)
   intro g1 cap H5 hle5 hcap hrd
   rw [bs_cells] at hrd
   (conv => whnf)
   exact ⟨⟨_, _, _, rfl, .lit (bs_size _) hrd⟩, (((hle2.trans hle3).trans hle4).trans hle5), nn', g', hN', .inl rfl⟩
 | ok c =>
  dsimp only [nmE] at hl
  cases L
  ·have htk : takeP [] (.ok c) = [c] := rfl
   rw [htk] at hl ⊢
   refine CallO.sub (pushN s iss aud c nk f nn g H (hl.mono ?_)) ?_
   ·rintro e H' G' hle ⟨h1, h2, nn', g', h3, h4⟩
    exact ⟨h1, h2, nn', g', h3, h4.resolve_right fun h => h.1.1 rfl⟩
   ·rintro e H' G' hle ⟨rfl, hle2, nn', g', x, hN', rfl⟩
    exact ⟨_, reG iss aud nk f nn' g' [c], [0, 1, 2, 4], rfl, ⟨rfl, rfl, rfl, rfl, trivial⟩, rfl, rfl, hle2, nn', g', hN', .inl rfl⟩
  ·rename_i d L
   have hne := take_ne (d := d) (L := L) (.ok c)
   generalize takeP (d :: L) (.ok c) = L' at hl hne ⊢
   refine CallO.sub (pushS s iss aud c d L L' hne nk f nn g H hl) ?_
   rintro e H' G' hle ⟨rfl, hle2, nn', g', hN', hG⟩
   rcases hG with rfl | ⟨x, rfl⟩
   ·cases L' with
    | nil => exact absurd rfl hne
    | cons d' L' => exact ⟨_, reG iss aud nk f nn' g' (d' :: L'), [0, 1, 2, 3], rfl, ⟨rfl, rfl, rfl, rfl, trivial⟩, rfl, rfl, hle2, nn', g', hN', .inl rfl⟩
   ·exact ⟨_, reH iss aud nk f nn' g' L', [0, 1, 2, 3, 5], rfl, ⟨rfl, rfl, rfl, trivial, rfl, trivial⟩, rfl, rfl, hle2, nn', g', hN', .inr ⟨⟨(nomatch ·), _, rfl⟩, rfl⟩⟩
theorem cells_one (L : List Clm) : ∀ u ∈ L.flatMap cellsC, u.oneCell' = true := by
 intro u hu
 obtain ⟨c, _, hc⟩ := List.mem_flatMap.1 hu
 exact cellsC_one c u hc
theorem cloneC (d : Clm) (L : List Clm) (hL : L.length ≤ 1000) (H : Hp) : CallO Tryz.prog 35 [.si (.ce (.self 0))] H [cRow (d :: L)] fun e H' G' => e = .ret (.si (.ce (.self 1))) ∧ H.Le H' ∧ G' = [cRow (d :: L), cRow (d :: L)] := by
 refine CallO.of_body Tk.tab Tryz.func35 rfl (nt := Tryz.f35.ntmps) rfl (by kernel_rfl) ?_
 (conv => whnf)
 refine ⟨Nat.succ_pos _, ?_⟩
 (conv => whnf)
 refine ⟨by decide, .inl ?_⟩
 intro g H2 hle hrd
 (conv => whnf)
 refine ⟨cells_one (d :: L), fun h => absurd h (by simp), fun _ => ⟨rfl, [], rfl, hrd, ?_, ?_⟩⟩
 ·show (0 + (L.length + 1)) * 145 ≤ _
  omega
 (conv => whnf)
 exact ⟨rfl, hle, by rw [Nat.zero_add]; rfl⟩
theorem taken0 (iss aud : ByteArray) (nk : Nat) (f : Value → Option Value) (nn : Nat) (g : Value → Option Value) (H : Hp) : CallO Tryz.prog 13 [meR] H (reG iss aud nk f nn g []) fun e H' G' => e = .ret (pv (.slice none 0 0)) ∧ H.Le H' ∧ G' = reG iss aud nk f nn g [] := by
 refine CallO.of_body Tk.tab Tryz.func13 rfl (nt := Tryz.f13.ntmps) rfl (by kernel_rfl) ?_
 (conv => whnf)
 have hc : CallO Tryz.prog 35 [pv (.slice none 0 0)] H [] fun e H' G' => e = .ret (pv (.slice none 0 0)) ∧ H' = H ∧ G' = [] := by
  refine CallO.of_body Tk.tab Tryz.func35 rfl (nt := Tryz.f35.ntmps) rfl (by kernel_rfl) ?_
  (conv => whnf)
  exact ⟨rfl, rfl, rfl⟩
 refine ⟨⟨_, Tryz.func35, rfl, by kernel_rfl⟩, CallS.use hc [] rfl rfl trivial ?_⟩
 rintro e H2 G' hle2 ⟨rfl, rfl, rfl⟩
 (conv => whnf)
 exact ⟨rfl, hle2, rfl⟩
theorem taken1 (iss aud : ByteArray) (nk : Nat) (f : Value → Option Value) (nn : Nat) (g : Value → Option Value) (d : Clm) (L : List Clm) (hL : L.length ≤ 1000) (H : Hp) : CallO Tryz.prog 13 [meR] H (reG iss aud nk f nn g (d :: L)) fun e H' G' => e = .ret (.si (.ce (.self 4))) ∧ H.Le H' ∧ G' = reG iss aud nk f nn g (d :: L) ++ [cRow (d :: L)] := by
 refine CallO.of_body Tk.tab Tryz.func13 rfl (nt := Tryz.f13.ntmps) rfl (by kernel_rfl) ?_
 (conv => whnf)
 refine ⟨⟨_, Tryz.func35, rfl, by kernel_rfl⟩, CallS.use (cloneC d L hL H) [3] rfl rfl ⟨rfl, trivial⟩ ?_⟩
 rintro e H2 G' hle2 ⟨rfl, hle2', rfl⟩
 (conv => whnf)
 exact ⟨rfl, hle2, rfl⟩
end Go.Kx.Re
namespace Go.Kx.L30
open Go.Proofs Go.Kx Go.RowKit Go.Kx.Js Go.Kx.Pr Go.Kx.Rt Go.Kx.Ob Go.Kx.Wo Go.Kx.Cl Go.Kx.Pa Go.Kx.Su Go.Kx.Se Go.Kx.Jw Go.Kx.L13 Go.Kx.Re
set_option maxRecDepth 20000
set_option linter.unusedSimpArgs false
namespace To
def T : Tab := [(9, { k := TK.string, agg := false, size := 1, bytes := 16, zero := [Z.s] }), (28, { k := TK.st [(0, 9, 1), (1, 9, 1), (2, 9, 1), (3, 3, 1), (4, 9, 1), (5, 26, 3), (8, 3, 1), (9, 9, 1)], agg := true, size := 10, bytes := 144, zero := [Z.s, Z.s, Z.s, Z.i IntKind.i64, Z.s, Z.s, Z.s, Z.s, Z.i IntKind.i64, Z.s] }), (26, { k := TK.st [(0, 9, 1), (1, 9, 1), (2, 9, 1)], agg := true, size := 3, bytes := 48, zero := [Z.s, Z.s, Z.s] }), (44, { k := TK.st [(0, 9, 1), (1, 32, 1)], agg := true, size := 2, bytes := 40, zero := [Z.s, Z.sl] }), (39, { k := TK.slice 44, agg := false, size := 1, bytes := 24, zero := [Z.sl] }), (32, { k := TK.slice 5, agg := false, size := 1, bytes := 24, zero := [Z.sl] }), (5, { k := TK.int IntKind.u8, agg := false, size := 1, bytes := 1, zero := [Z.i IntKind.u8] }), (40, { k := TK.int IntKind.i64, agg := false, size := 1, bytes := 8, zero := [Z.i IntKind.i64] }), (67, { k := TK.st [(0, 65, 2), (2, 32, 1), (3, 9, 1), (4, 32, 1)], agg := true, size := 5, bytes := 96, zero := [Z.s, Z.s, Z.sl, Z.s, Z.sl] }), (65, { k := TK.st [(0, 9, 1), (1, 9, 1)], agg := true, size := 2, bytes := 32, zero := [Z.s, Z.s] }), (3, { k := TK.int IntKind.i64, agg := false, size := 1, bytes := 8, zero := [Z.i IntKind.i64] }), (4, { k := TK.bool, agg := false, size := 1, bytes := 1, zero := [Z.b] })]
set_option maxRecDepth 100000 in
theorem tab : TabOk Tryz.prog T := tabOk_mk (ts := [9, 28, 26, 44, 39, 32, 5, 40, 67, 65, 3, 4]) (by kernel_rfl)
end To
theorem keyOf_none {ks : List KS} {kid : ByteArray} (h : ∀ x ∈ ks, x.kid ≠ kid) : Re.keyOf ks kid = none := by
 unfold Re.keyOf
 rw [List.find?_eq_none.2 (fun x hx => by simpa using h x hx)]
 rfl
theorem keyOf_at : ∀ {ks : List KS} {i : Nat} {x : KS}, ks[i]? = some x → (∀ y ∈ ks.take i, y.kid ≠ x.kid) → Re.keyOf ks x.kid = some x.bs
 | [], _, _, h, _ => by simp at h
 | y :: r, 0, x, h, _ => by
  simp at h
  subst h
  unfold Re.keyOf
  simp
 | y :: r, i + 1, x, h, hne => by
  have h1 : y.kid ≠ x.kid := hne y (by simp)
  have := keyOf_at (ks := r) (i := i) (x := x) (by simpa using h) (fun z hz => hne z (by simp [hz]))
  unfold Re.keyOf at this ⊢
  simpa [h1] using this
theorem look1 {s iss aud : ByteArray} {K : ByteArray → Option (List UInt8)} {x : Int} (h : partsP s = .error x) : lookP s iss aud K = .error sReq := by
 unfold lookP
 rw [h]
theorem look2 {s iss aud : ByteArray} {K : ByteArray → Option (List UInt8)} {t : Tok} (h : partsP s = .ok t) (hk : K t.kid = none) : lookP s iss aud K = .error sKey := by
 unfold lookP
 rw [h]
 dsimp only
 rw [hk]
theorem look3 {s iss aud : ByteArray} {K : ByteArray → Option (List UInt8)} {t : Tok} {key : List UInt8} (h : partsP s = .ok t) (hk : K t.kid = some key) : lookP s iss aud K = match readP s key with
   | .error x => if x = 40 then .error sFail else .error sReq
   | .ok c => if strEq c.iss iss = false then .error sIssr else if strEq c.aud aud = false then .error sAudc else .ok c := by
 unfold lookP
 rw [h]
 dsimp only
 rw [hk]
 rfl
theorem told_ (s : ByteArray) (hs : s.size ≤ 1000000) (H : Hp) (hE : ErrH H) : CallO Tryz.prog 11 [pv (.string s)] H [] fun e H' G' => e = .ret (pv (.string (nmE (lookP s sAs sRx K30)))) ∧ H.Le H' ∧ G' = [] := by
 have hp := Jw.parse_ s hs H
 have hpe := fun x => parts_err (s := s) (x := x)
 have hre0 := fun key x => read_err (s := s) (key := key) (x := x)
 obtain ⟨X, hX⟩ : ∃ X, partsP s = X := ⟨_, rfl⟩
 rw [hX] at hp hpe
 refine CallO.of_body To.tab Tryz.func11 rfl (nt := Tryz.f11.ntmps) rfl (by kernel_rfl) ?_
 (conv => whnf)
 refine ⟨⟨_, Tryz.func30, rfl, by kernel_rfl⟩, CallS.use hp [] rfl rfl trivial ?_⟩
 rintro e H2 G' hle2 ⟨hout, hle2', rfl⟩
 cases X with
 | error x =>
  obtain rfl := hout
  have hx : (x != 0) = true := by rcases hpe x rfl with h | h | h <;> subst h <;> rfl
  (conv => whnf)
  rw [hx]
  (conv => whnf)
  exact ⟨by rw [look1 hX]; rfl, hle2, rfl⟩
 | ok tk =>
  obtain ⟨A, n, c, B, m, d, rfl, hb1, hb2⟩ := hout
  (conv => whnf)
  refine ⟨⟨_, Tryz.func27, rfl, by kernel_rfl⟩, CallS.use (keys_ H2) [] rfl rfl trivial ?_⟩
  rintro e H3 G' hle3 ⟨⟨KA, cap, A1, c1, A2, c2, rfl, h1, h2⟩, hle3', rfl⟩
  (conv => whnf)
  have hK := keyOf30 A1 c1 A2 c2
  have hn16 : ∀ x ∈ ks30 A1 c1 A2 c2, x.n = 16 := by
   intro x hx
   rcases List.mem_cons.1 hx with rfl | hx
   ·rfl
   ·rcases List.mem_cons.1 hx with rfl | hx
    ·rfl
    ·simp at hx
  have hlen : 2 = (ks30 A1 c1 A2 c2).length := rfl
  generalize ks30 A1 c1 A2 c2 = ks at h1 h2 hK hn16 hlen
  refine WS.loop (fun k' F H4 G => ∃ i : Nat, i ≤ 2 ∧ (∀ x ∈ ks.take i, x.kid ≠ tk.kid) ∧ k' = 2 - i ∧ F = [(0, pv (.string s)), (3, .si (.ce (.ptr 0 0))), (16, pv (.slice KA 2 cap)), (17, pv (.int .i64 2)), (18, pv (.int .i64 i))] ∧ H4 = H3 ∧ G = [.box 67 [.val (.string tk.kid), .val (.string tk.typ), .val (.slice A n c), .val (.string ⟨tk.signed.toArray⟩), .val (.slice B m d)]]) 3 ?_ ?_
  ·refine ⟨2, by omega, _, _, [0], ⟨0, by omega, fun x hx => by simp at hx, rfl, rfl, rfl, rfl⟩, ?_⟩
   exact ⟨rfl, ⟨rfl, trivial⟩, rfl, rfl, rfl, rfl, rfl, trivial⟩
  rintro k' F H4 G hle4 ⟨i, hi, hne, rfl, rfl, rfl, rfl⟩
  refine codeL.go To.tab ?_
  (conv => whnf)
  refine br.of (fun h3 => ?_) (fun h3 => ?_) <;> (conv => whnf)
  ·have h3 := of_decide_eq_true h3
   refine ⟨⟨by omega, by omega⟩, ?_⟩
   (conv => whnf)
   have hil : i < ks.length := by omega
   have hget : ks[i]? = some ks[i] := List.getElem?_eq_getElem hil
   generalize ks[i] = x at hget
   refine ⟨h1.addr (by omega), ?_⟩
   (conv => whnf)
   refine ⟨kCs x, rfl, h1.rd hget (by show (i : Int).toNat * 2 = _; omega), ?_⟩
   (conv => whnf)
   have hmx := List.mem_of_getElem? hget
   cases hkk : strEq x.kid tk.kid
   ·(conv => whnf)
    rw [wrap64 (x := (i : Int) + 1) (by omega) (by omega)]
    refine ⟨2 - (i + 1), by omega, _, _, [0], ⟨i + 1, by omega, take_next hget hne (strEq_false.1 hkk), rfl, rfl, rfl, rfl⟩, ?_⟩
    exact ⟨rfl, ⟨rfl, trivial⟩, rfl, rfl, rfl, rfl, rfl, trivial⟩
   ·(conv => whnf)
    have hkk := strEq_iff.1 hkk
    have hkey : K30 tk.kid = some x.bs := by
     rw [← hK, ← hkk]
     exact keyOf_at hget (by rw [hkk]; exact hne)
    have hr := read_ s hs x.bs x.A x.n x.c (by rw [hn16 x hmx]; decide) H4 (hE.mono (hle2.trans hle3)) ((h2 x hmx).1.full (by rw [hn16 x hmx]; decide))
    have hre := hre0 x.bs
    have hlk := look3 (iss := sAs) (aud := sRx) hX hkey
    generalize readP s x.bs = Y at hr hre hlk
    refine ⟨⟨_, Tryz.func31, rfl, by kernel_rfl⟩, CallS.use hr [] rfl rfl trivial ?_⟩
    rintro e H5 G' hle5 ⟨hout, hle5', rfl⟩
    have hleA := (hle2.trans hle3).trans hle5
    cases Y with
    | error y =>
     obtain rfl := hout
     have hy0 := hre y rfl
     have hy1 : (y != 0) = true := by simpa using hy0
     by_cases hy : y = 40
     ·subst hy
      (conv => whnf)
      exact ⟨by rw [hlk]; rfl, hleA, rfl⟩
     ·have hy2 : (y == 40) = false := by simpa using hy
      (conv => whnf)
      rw [hy2]
      (conv => whnf)
      rw [hy1]
      (conv => whnf)
      exact ⟨by rw [hlk]; dsimp only; rw [if_neg hy]; rfl, hleA, rfl⟩
    | ok cl =>
     obtain rfl := hout
     dsimp only at hlk
     cases hi : strEq cl.iss sAs
     ·have hi' : strEq cl.iss (⟨#[104, 116, 116, 112, 115, 58, 47, 47, 97, 115]⟩ : ByteArray) = false := hi
      rw [if_pos hi] at hlk
      (conv => whnf)
      rw [hi']
      (conv => whnf)
      exact ⟨by rw [hlk]; rfl, hleA, rfl⟩
     ·have hi' : strEq cl.iss (⟨#[104, 116, 116, 112, 115, 58, 47, 47, 97, 115]⟩ : ByteArray) = true := hi
      rw [if_neg (by rw [hi]; decide)] at hlk
      cases ha : strEq cl.aud sRx
      ·have ha' : strEq cl.aud (⟨#[114, 120]⟩ : ByteArray) = false := ha
       rw [if_pos ha] at hlk
       (conv => whnf)
       rw [hi']
       (conv => whnf)
       rw [ha']
       (conv => whnf)
       exact ⟨by rw [hlk]; rfl, hleA, rfl⟩
      ·have ha' : strEq cl.aud (⟨#[114, 120]⟩ : ByteArray) = true := ha
       rw [if_neg (by rw [ha]; decide)] at hlk
       (conv => whnf)
       rw [hi']
       (conv => whnf)
       rw [ha']
       (conv => whnf)
       exact ⟨by rw [hlk]; rfl, hleA, rfl⟩
  ·have h3 := of_decide_eq_false h3
   obtain rfl : i = 2 := by omega
   have hkey : K30 tk.kid = none := by
    rw [← hK]
    exact keyOf_none (by rw [hlen, List.take_length] at hne; exact hne)
   exact ⟨by rw [look2 hX hkey]; rfl, hle2.trans hle3, rfl⟩
end Go.Kx.L30
namespace Go.Kx.Re
open Go.Proofs Go.Kx Go.RowKit Go.Kx.Ob Go.Kx.Cl
set_option maxRecDepth 20000
set_option linter.unusedSimpArgs false
abbrev cmpF : SV := .si (.ce (.fn (.func 56) 0 []))
abbrev rowP (xs : List Value) : SB := .row 60 5 1 xs
theorem ins1 (xs : List Value) (H : Hp) : CallO Tryz.prog 129 [.si (.ce (.self 0)), pv (.int .i64 0), pv (.int .i64 1), cmpF] H [rowP xs] fun e H' G' => e = .ret (.tu []) ∧ H' = H ∧ G' = [rowP xs] := by
 refine CallO.of_body Pe.tab Tryz.func129 rfl (nt := Tryz.f129.ntmps) rfl (by kernel_rfl) ?_
 (conv => whnf)
 refine WS.loop (fun k' F H4 G => k' = 0 ∧ F = [(2, pv (.int .i64 1)), (8, pv (.int .i64 1))] ∧ H4 = H ∧ G = [rowP xs]) 1 ?_ ?_
 ·refine ⟨0, by omega, _, _, [0], ⟨rfl, rfl, rfl, rfl⟩, ?_⟩
  exact ⟨rfl, ⟨rfl, trivial⟩, rfl, rfl, trivial⟩
 rintro k' F H4 G hle4 ⟨rfl, rfl, rfl, rfl⟩
 refine codeL.go Pe.tab ?_
 (conv => whnf)
 exact ⟨rfl, rfl, rfl⟩
theorem pdq1 (xs : List Value) (H : Hp) : CallO Tryz.prog 87 [.si (.ce (.self 0)), pv (.int .i64 0), pv (.int .i64 1), pv (.int .i64 1), cmpF] H [rowP xs] fun e H' G' => e = .ret (.tu []) ∧ H' = H ∧ G' = [rowP xs] := by
 refine CallO.of_body Pe.tab Tryz.func87 rfl (nt := Tryz.f87.ntmps) rfl (by kernel_rfl) ?_
 (conv => whnf)
 refine WS.loop (fun k' F H4 G => k' = 0 ∧ F = [(0, .si (.ce (.self 0))), (1, pv (.int .i64 0)), (2, pv (.int .i64 1)), (3, pv (.int .i64 1)), (4, cmpF), (10, pv (.bool true)), (11, pv (.bool true))] ∧ H4 = H ∧ G = [rowP xs]) 1 ?_ ?_
 ·refine ⟨0, by omega, _, _, [0], ⟨rfl, rfl, rfl, rfl⟩, ?_⟩
  exact ⟨rfl, ⟨rfl, trivial⟩, rfl, rfl, rfl, rfl, rfl, rfl, rfl, trivial⟩
 rintro k' F H4 G hle4 ⟨rfl, rfl, rfl, rfl⟩
 refine codeL.go Pe.tab ?_
 (conv => whnf)
 refine ⟨⟨_, Tryz.func129, rfl, by kernel_rfl⟩, CallS.use (ins1 xs H4) [0] rfl rfl ⟨rfl, trivial⟩ ?_⟩
 rintro e H5 G' hle5 ⟨rfl, rfl, rfl⟩
 (conv => whnf)
 exact ⟨rfl, rfl, rfl⟩
theorem sort1 (xs : List Value) (H : Hp) : CallO Tryz.prog 55 [.si (.ce (.self 0)), cmpF] H [rowP xs] fun e H' G' => e = .ret (.tu []) ∧ H' = H ∧ G' = [rowP xs] := by
 refine CallO.of_body Pe.tab Tryz.func55 rfl (nt := Tryz.f55.ntmps) rfl (by kernel_rfl) ?_
 (conv => whnf)
 refine ⟨⟨_, Tryz.func88, rfl, by kernel_rfl⟩, CallS.use (len1 H) [] rfl rfl trivial ?_⟩
 rintro e H2 G' hle2 ⟨rfl, rfl, rfl⟩
 (conv => whnf)
 refine ⟨⟨_, Tryz.func87, rfl, by kernel_rfl⟩, CallS.use (pdq1 xs H2) [0] rfl rfl ⟨rfl, trivial⟩ ?_⟩
 rintro e H5 G' hle5 ⟨rfl, rfl, rfl⟩
 (conv => whnf)
 exact ⟨rfl, rfl, rfl⟩
end Go.Kx.Re
namespace Go.Kx.L30
open Go.Proofs Go.Kx Go.RowKit Go.Kx.Js Go.Kx.Pr Go.Kx.Rt Go.Kx.Ob Go.Kx.Wo Go.Kx.Cl Go.Kx.Pa Go.Kx.Su Go.Kx.Se Go.Kx.Jw Go.Kx.L13 Go.Kx.Re
set_option maxRecDepth 20000
set_option linter.unusedSimpArgs false
def sAnn : ByteArray := (⟨#[97, 110, 110]⟩ : ByteArray)
def ev1 : Clm := clm30 (⟨#[101, 54, 46, 49]⟩ : ByteArray) (⟨#[54]⟩ : ByteArray) sAnn 4 1
def ev2 : Clm := clm30 (⟨#[101, 53, 46, 49]⟩ : ByteArray) (⟨#[53]⟩ : ByteArray) sAnn 3 2
def pic0 : Pic := ⟨sAnn, true, 0, 0, 0, 0⟩
def pic1 : Pic := ⟨sAnn, true, 0, 0, 1, 6⟩
def pic2 : Pic := ⟨sAnn, true, 0, 0, 2, 6⟩
theorem num6 : numP (⟨#[54]⟩ : ByteArray) = 6 := by
 unfold numP
 have h := Lb.atoi_dec 6 (by decide)
 have e : Lib.decDigits 6 = (⟨#[54]⟩ : ByteArray).data.toList := by rw [Lib.decDigits_one (by decide)]; rfl
 have e2 : Lb.itoaB 6 = ⟨#[54]⟩ := by decide +kernel
 rw [e] at h
 rw [h]
 dsimp only
 rw [if_neg (by decide), if_neg (by rw [show (((6 : Nat) : Int)) = 6 from rfl, e2]; decide)]
 rfl
theorem learn1 : learnP pic0 ev1 = pic1 := by
 unfold learnP
 rw [if_neg (by decide), if_neg (by decide), if_pos (by decide), show ev1.txn = (⟨#[54]⟩ : ByteArray) from rfl, num6]
 rfl
theorem num5 : numP (⟨#[53]⟩ : ByteArray) = 5 := by
 unfold numP
 have h := Lb.atoi_dec 5 (by decide)
 have e : Lib.decDigits 5 = (⟨#[53]⟩ : ByteArray).data.toList := by rw [Lib.decDigits_one (by decide)]; rfl
 have e2 : Lb.itoaB 5 = ⟨#[53]⟩ := by decide +kernel
 rw [e] at h
 rw [h]
 dsimp only
 rw [if_neg (by decide), if_neg (by rw [show (((5 : Nat) : Int)) = 5 from rfl, e2]; decide)]
 rfl
theorem learn2 : learnP pic1 ev2 = pic2 := by
 unfold learnP
 rw [if_neg (by decide), if_neg (by decide), if_pos (by decide), show ev2.txn = (⟨#[53]⟩ : ByteArray) from rfl, num5]
 rfl
def annC : List Value := [.string sAnn, .bool true, .int .i64 0, .int .i64 0, .int .i64 2]
abbrev rX (k : Nat) (f : Value → Option Value) (nn : Nat) (g : Value → Option Value) : List SB := reG sAs sRx k f nn g [ev1, ev2]
def PI (nk : Nat) (f : Value → Option Value) (nn : Nat) (g : Value → Option Value) (H : Hp) (k : Nat) (F : Fr) (H' : Hp) (G : List SB) : Prop :=
 H' = H ∧ ((k = 2 ∧ F = [(0, meR), (3, .si (.ce (.self 4))), (15, .si (.ce (.self 3))), (16, pv (.int .i64 2)), (17, pv (.int .i64 0))] ∧ G = rX nk f nn g ++ [.map .string 0 fun _ => none]) ∨
 (k = 1 ∧ F = [(0, meR), (3, .si (.ce (.self 4))), (15, .si (.ce (.self 3))), (16, pv (.int .i64 2)), (17, pv (.int .i64 1))] ∧ ∃ c, G = rX nk f nn g ++ [.ent .string (c + 1) [(.string sAnn, .ptr 5 0, c)], picB pic1]) ∨
 (k = 0 ∧ F = [(0, meR), (3, .si (.ce (.self 4))), (15, .si (.ce (.self 3))), (16, pv (.int .i64 2)), (17, pv (.int .i64 2))] ∧ ∃ c, G = rX nk f nn g ++ [.ent .string (c + 1) [(.string sAnn, .ptr 5 0, c)], picB pic2]))
def PJ (nk : Nat) (f : Value → Option Value) (nn : Nat) (g : Value → Option Value) (H : Hp) (c k : Nat) (F : Fr) (H' : Hp) (G : List SB) : Prop :=
 H.Le H' ∧ ((k = 1 ∧ F = [(8, pv (.slice none 0 0)), (61, .si (.ce (.ptr 6 0)))] ∧ G = rX nk f nn g ++ [.ent .string (c + 1) [(.string sAnn, .ptr 5 0, c)], picB pic2, .itr 4 (c + 1) [] (c + 1)]) ∨
 (k = 0 ∧ F = [(8, .si (.ce (.self 7))), (61, .si (.ce (.ptr 6 0)))] ∧ G = rX nk f nn g ++ [.ent .string (c + 1) [(.string sAnn, .ptr 5 0, c)], picB pic2, .itr 4 (c + 1) [c] (c + 1), rowP annC]))
theorem people0 (nk : Nat) (f : Value → Option Value) (nn : Nat) (g : Value → Option Value) (H : Hp) (hE : ErrH H) : CallO Tryz.prog 26 [meR] H (rX nk f nn g) fun e H' G' => e = .ret (.si (.ce (.self 7))) ∧ H.Le H' ∧ ∃ x y z, G' = rX nk f nn g ++ [x, y, z, rowP annC] := by
 refine CallO.of_body Pe.tab Tryz.func26 rfl (nt := Tryz.f26.ntmps) rfl (by kernel_rfl) ?_
 (conv => whnf)
 refine WS.loop (PI nk f nn g H) 3 ?_ ?_
 ·refine ⟨2, by omega, _, _, [0, 1, 2, 3, 4], ⟨rfl, .inl ⟨rfl, rfl, rfl⟩⟩, ?_⟩
  exact ⟨rfl, ⟨rfl, rfl, rfl, rfl, rfl, trivial⟩, rfl, rfl, rfl, rfl, rfl, trivial⟩
 rintro k' F H4 G hle4 ⟨rfl, ⟨rfl, rfl, rfl⟩ | ⟨rfl, rfl, c, rfl⟩ | ⟨rfl, rfl, c, rfl⟩⟩
 ·refine codeL.go Pe.tab ?_
  (conv => whnf)
  refine ⟨⟨by decide, by decide⟩, ?_⟩
  (conv => whnf)
  refine ⟨cellsC ev1, rfl, cells_at (xs := [ev1, ev2].flatMap cellsC) (a := 0) (m := 10) rfl rfl, ?_⟩
  (conv => whnf)
  refine WS.draw Pe.tab Pe.mixed (.take 0 (.take 1 (.take 2 (.take 3 (.take 4 (.take 5 (.take 6 (.take 7 (.take 8 (.take 9 (.take 10 (.take 11 (.take 12 (.take 13 .done)))))))))))))) (by kernel_rfl) [] ?_
  (conv => whnf)
  refine ⟨_, rfl, ?_⟩
  (conv => whnf)
  change LO _ _ _ _ _ _ _
  refine LO.upd0 (t := 113) (kt := 9) (et := 114) (m := .tmp 51) (k := .tmp 54) (x := .tmp 55) (d := .string) ?_ ?_ ?_ 4 (.string sAnn) (.ptr 6 0) (f := fun _ => none) ?_ ?_ ?_ ?_
  ·rfl
  ·kernel_rfl
  ·kernel_rfl
  ·rfl
  ·trivial
  ·exact ⟨rfl, rfl, rfl⟩
  intro c
  (conv => whnf)
  refine ⟨⟨_, Tryz.func54, rfl, by kernel_rfl⟩, CallS.use (learn_ pic0 ev1 (by decide) (by decide) (by decide) H4 hE) [6] rfl rfl ⟨rfl, trivial⟩ ?_⟩
  rintro e H5 G' hle5 ⟨rfl, rfl, rfl⟩
  rw [learn1]
  (conv => whnf)
  refine ⟨1, by omega, _, _, [0, 1, 2, 3, 4, 6], ⟨rfl, .inr (.inl ⟨rfl, rfl, c, rfl⟩)⟩, ?_⟩
  exact ⟨rfl, ⟨rfl, rfl, rfl, rfl, rfl, rfl, trivial⟩, rfl, rfl, rfl, rfl, rfl, trivial⟩
 ·refine codeL.go Pe.tab ?_
  (conv => whnf)
  refine ⟨⟨by decide, by decide⟩, ?_⟩
  (conv => whnf)
  refine ⟨cellsC ev2, rfl, cells_at (xs := [ev1, ev2].flatMap cellsC) (a := 10) (m := 10) rfl rfl, ?_⟩
  (conv => whnf)
  refine WS.draw Pe.tab Pe.mixed (.take 0 (.take 1 (.take 2 (.take 3 (.take 4 (.take 5 (.take 6 (.take 7 (.take 8 (.take 9 (.take 10 (.take 11 (.take 12 (.take 13 .done)))))))))))))) (by kernel_rfl) [] ?_
  (conv => whnf)
  change LO _ _ _ _ _ _ _
  refine LO.lookE (t := 113) (kt := 9) (et := 114) (m := .tmp 36) (k := .tmp 39) (d := .string) ?_ ?_ ?_ ?_ 4 (.string sAnn) (c := c + 1) (l := [(.string sAnn, .ptr 5 0, c)]) ?_ ?_ ?_ ?_
  ·rfl
  ·kernel_rfl
  ·kernel_rfl
  ·intro w
   kernel_rfl
  ·rfl
  ·trivial
  ·exact ⟨rfl, rfl⟩
  rw [findE_self]
  dsimp only
  (conv => whnf)
  refine ⟨⟨_, Tryz.func54, rfl, by kernel_rfl⟩, CallS.use (learn_ pic1 ev2 (by decide) (by decide) (by decide) H4 hE) [5] rfl rfl ⟨rfl, trivial⟩ ?_⟩
  rintro e H5 G' hle5 ⟨rfl, rfl, rfl⟩
  rw [learn2]
  (conv => whnf)
  refine ⟨0, by omega, _, _, [0, 1, 2, 3, 4, 5], ⟨rfl, .inr (.inr ⟨rfl, rfl, c, rfl⟩)⟩, ?_⟩
  exact ⟨rfl, ⟨rfl, rfl, rfl, rfl, rfl, rfl, trivial⟩, rfl, rfl, rfl, rfl, rfl, trivial⟩
 ·refine codeL.go Pe.tab ?_
  (conv => whnf)
  change LO _ _ _ _ _ _ _
  refine LO.rangeE (t := 113) (kt := 9) (et := 114) (m := .tmp 60) (d := .string) ?_ ?_ 4 (c := c + 1) (l := [(.string sAnn, .ptr 5 0, c)]) ?_ ?_ ?_
  ·rfl
  ·kernel_rfl
  ·rfl
  ·rfl
  intro hold
  (conv => whnf)
  refine WS.loop (PJ nk f nn g H4 c) 3 ?_ ?_
  ·refine ⟨1, by omega, _, _, [0, 1, 2, 3, 4, 5, 6], ⟨.refl _, .inl ⟨rfl, rfl, rfl⟩⟩, ?_⟩
   exact ⟨rfl, ⟨rfl, rfl, rfl, rfl, rfl, rfl, rfl, trivial⟩, rfl, rfl, trivial⟩
  rintro k' F H5 G hle5 ⟨hleQ, ⟨rfl, rfl, rfl⟩ | ⟨rfl, rfl, rfl⟩⟩
  ·refine codeL.go Pe.tab ?_
   (conv => whnf)
   change LO _ _ _ _ _ _ _
   refine LO.nextE (it := .tmp 61) (d := .string) ?_ 6 4 (since := c + 1) (last := c + 1) (c := c + 1) (seen := []) (l := [(.string sAnn, .ptr 5 0, c)]) ?_ ?_ ?_ hold (Nat.le_refl _) ?_ ?_
   ·rfl
   ·rfl
   ·rfl
   ·rfl
   ·intro h
    exact absurd (h _ List.mem_cons_self) (by simp)
   intro x hx _
   obtain rfl := List.mem_singleton.1 hx
   (conv => whnf)
   change LO _ _ _ _ _ _ _
   refine LO.entryE (it := .tmp 61) (d := .string) ?_ 6 4 (since := c + 1) (c := c + 1) (seen := [c]) (s0 := []) (l := [(.string sAnn, .ptr 5 0, c)]) ?_ ?_ ?_ (.string sAnn, .ptr 5 0, c) rfl List.mem_cons_self ?_
   ·rfl
   ·rfl
   ·rfl
   ·rfl
   (conv => whnf)
   refine ⟨by decide, .inl ?_⟩
   intro g1 H6 hle6 hrd
   (conv => whnf)
   refine ⟨annC, rfl, hrd, by intro u hu; simp only [annC, List.mem_cons, List.not_mem_nil, or_false] at hu; rcases hu with rfl | rfl | rfl | rfl | rfl <;> rfl, ?_⟩
   (conv => whnf)
   refine ⟨by decide, ?_⟩
   (conv => whnf)
   refine ⟨0, by omega, _, _, [0, 1, 2, 3, 4, 5, 6, 7], ⟨hleQ.trans hle6, .inr ⟨rfl, rfl, rfl⟩⟩, ?_⟩
   exact ⟨rfl, ⟨rfl, rfl, rfl, rfl, rfl, rfl, rfl, rfl, trivial⟩, rfl, rfl, trivial⟩
  ·refine codeL.go Pe.tab ?_
   (conv => whnf)
   change LO _ _ _ _ _ _ _
   refine LO.nextE (it := .tmp 61) (d := .string) ?_ 6 4 (since := c + 1) (last := c + 1) (c := c + 1) (seen := [c]) (l := [(.string sAnn, .ptr 5 0, c)]) ?_ ?_ ?_ hold (Nat.le_refl _) ?_ ?_
   ·rfl
   ·rfl
   ·rfl
   ·rfl
   rotate_left
   ·intro x hx hn
    obtain rfl := List.mem_singleton.1 hx
    exact absurd List.mem_cons_self hn
   intro _
   (conv => whnf)
   refine ⟨⟨_, Tryz.func55, rfl, by kernel_rfl⟩, CallS.use (sort1 annC H5) [7] rfl rfl ⟨rfl, trivial⟩ ?_⟩
   rintro e H6 G' hle6 ⟨rfl, rfl, rfl⟩
   (conv => whnf)
   exact ⟨rfl, hleQ, _, _, _, rfl⟩
theorem people1 (nk : Nat) (f : Value → Option Value) (nn : Nat) (g : Value → Option Value) (H : Hp) (hE : ErrH H) : CallO Tryz.prog 26 [meR] H (rX nk f nn g) fun e H' G' => e = .ret (.si (.ce (.self 4))) ∧ H.Le H' ∧ G' = rX nk f nn g ++ [rowP annC] := by
 refine CallO.sub (people0 nk f nn g H hE) ?_
 rintro e H' G' hle ⟨rfl, hle2, x, y, z, rfl⟩
 exact ⟨.si (.ce (.self 4)), rX nk f nn g ++ [rowP annC], [0, 1, 2, 3, 7], rfl, ⟨rfl, rfl, rfl, rfl, rfl, trivial⟩, rfl, rfl, hle2, rfl⟩
end Go.Kx.L30
namespace Go.Kx.L13
open Go.Proofs Go.Kx Go.RowKit Go.Kx.Js Go.Kx.Pr Go.Kx.Rt Go.Kx.Ob Go.Kx.Wo Go.Kx.Cl Go.Kx.Pa Go.Kx.Su Go.Kx.Se Go.Kx.Jw
set_option maxRecDepth 20000
set_option linter.unusedSimpArgs false
theorem wf64 {n : Int} (h0 : -9223372036854775808 ≤ n) (h1 : n ≤ 9223372036854775807) : (Lit.int .i64 n).wf = true := by
 have e0 : IntKind.i64.min = -9223372036854775808 := by decide
 have e1 : IntKind.i64.max = 9223372036854775807 := by decide
 simp [Lit.wf, e0, e1, h0, h1]
theorem fit_right {c : Clm} (h : RightC c) : FitC c := by
 have hm : 256 ≤ maxLen := by decide
 have w : ∀ {s : ByteArray}, Wo.wordP 256 s = true → s.size ≤ maxLen := fun hw => Nat.le_trans (word_size hw).1 hm
 have hs : c.sub.fmt.size ≤ maxLen ∧ c.sub.id.size ≤ maxLen ∧ c.sub.own.size ≤ maxLen := by
  rcases sub_cases h.sub with ⟨id, e, h1⟩ | ⟨id, e, h1, h2⟩ | ⟨id, own, e, h1, h2⟩
  ·rw [e]; exact ⟨(by decide : sOpaque.size ≤ maxLen), w h1, Nat.zero_le _⟩
  ·rw [e]; exact ⟨(by decide : sEmail.size ≤ maxLen), w h1, Nat.zero_le _⟩
  ·rw [e]; exact ⟨(by decide : sIssSub.size ≤ maxLen), w h1, w h2⟩
 exact ⟨w h.iss, w h.jti, w h.aud, wf64 (by have := h.iat; omega) (by have := h.iat; omega), w h.txn, hs.1, hs.2.1, hs.2.2, wf64 (by have := h.kind; omega) (by have := h.kind; omega), Nat.le_trans (reason_size h) hm⟩
theorem fit0 : FitC clm0 := ⟨by decide, by decide, by decide, by decide, by decide, by decide, by decide, by decide, by decide, by decide⟩
theorem read_right {s : ByteArray} {key : List UInt8} {c : Clm} (h : readP s key = .ok c) : RightC c := by
 unfold readP at h
 split at h
 ·cases h
 split at h
 ·cases h
 split at h
 ·cases h
 split at h
 ·cases h
 split at h
 ·cases h
 ·rename_i hc
  injection h with h
  subst h
  exact (of_some hc).1
def clX : Except Int Clm → Clm
 | .ok c => c
 | .error _ => clm0
def nX : Except Int Clm → Int
 | .ok _ => 0
 | .error x => x
theorem rcl {X : Except Int Clm} {e : SE} (h : RCl X e) : e = .ret (.tu [.ag (csC (clX X)), .ce (.val (.int .i64 (nX X)))]) := by
 cases X with
 | ok c => exact h
 | error x => exact h
theorem fitX {s : ByteArray} {key : List UInt8} : FitC (clX (readP s key)) := by
 cases h : readP s key with
 | ok c => exact fit_right (read_right h)
 | error x => exact fit0
theorem eqClm {o : Oper} {x y : Operand} (ho : o.op = .binOp .eql 28 x y 28) {F : Fr} {H : Hp} {G : List SB} {K : SV → Prop} (c d : Clm)
  (hx : evX x F fun sv => sv = .si (.ag ((cellsC c).map SC.val))) (hy : evX y F fun sv => sv = .si (.ag ((cellsC d).map SC.val))) (fc : FitC c) (fd : FitC d) (h : ∀ r : Bool, (r = true ↔ c = d) → K (pv (.bool r))) : QO Tryz.prog o F H G K :=
 QO.agg ho (cellsC c) (cellsC d) ksC hx hy gC kC sC (fC _) (fC _) fc.lits fd.lits fun r hr => .inl ⟨rfl, h r (hr.trans cellsC_inj)⟩
end Go.Kx.L13
namespace Go.Kx.L30
open Go.Proofs Go.Kx Go.RowKit Go.Kx.Js Go.Kx.Pr Go.Kx.Rt Go.Kx.Ob Go.Kx.Wo Go.Kx.Cl Go.Kx.Pa Go.Kx.Su Go.Kx.Se Go.Kx.Jw Go.Kx.L13 Go.Kx.Re
set_option maxRecDepth 20000
set_option linter.unusedSimpArgs false
namespace An
def T : Tab := [(9, { k := TK.string, agg := false, size := 1, bytes := 16, zero := [Z.s] }), (28, { k := TK.st [(0, 9, 1), (1, 9, 1), (2, 9, 1), (3, 3, 1), (4, 9, 1), (5, 26, 3), (8, 3, 1), (9, 9, 1)], agg := true, size := 10, bytes := 144, zero := [Z.s, Z.s, Z.s, Z.i IntKind.i64, Z.s, Z.s, Z.s, Z.s, Z.i IntKind.i64, Z.s] }), (26, { k := TK.st [(0, 9, 1), (1, 9, 1), (2, 9, 1)], agg := true, size := 3, bytes := 48, zero := [Z.s, Z.s, Z.s] }), (83, { k := TK.st [(0, 9, 1), (1, 9, 1), (2, 80, 1), (3, 36, 1), (4, 81, 1)], agg := true, size := 5, bytes := 72, zero := [Z.s, Z.s, Z.m, Z.sl, Z.m] }), (23, { k := TK.ptr 83, agg := false, size := 1, bytes := 8, zero := [Z.p] }), (60, { k := TK.st [(0, 9, 1), (1, 4, 1), (2, 3, 1), (3, 3, 1), (4, 3, 1)], agg := true, size := 5, bytes := 48, zero := [Z.s, Z.b, Z.i IntKind.i64, Z.i IntKind.i64, Z.i IntKind.i64] }), (57, { k := TK.slice 60, agg := false, size := 1, bytes := 24, zero := [Z.sl] }), (34, { k := TK.st [(0, 3, 1), (1, 32, 1)], agg := true, size := 2, bytes := 32, zero := [Z.i IntKind.i64, Z.sl] }), (36, { k := TK.slice 28, agg := false, size := 1, bytes := 24, zero := [Z.sl] }), (4, { k := TK.bool, agg := false, size := 1, bytes := 1, zero := [Z.b] }), (3, { k := TK.int IntKind.i64, agg := false, size := 1, bytes := 8, zero := [Z.i IntKind.i64] }), (80, { k := TK.map 9 32, agg := false, size := 1, bytes := 8, zero := [Z.m] }), (81, { k := TK.map 9 4, agg := false, size := 1, bytes := 8, zero := [Z.m] }), (32, { k := TK.slice 5, agg := false, size := 1, bytes := 24, zero := [Z.sl] }), (5, { k := TK.int IntKind.u8, agg := false, size := 1, bytes := 1, zero := [Z.i IntKind.u8] })]
set_option maxRecDepth 100000 in
theorem tab : TabOk Tryz.prog T := tabOk_mk (ts := [9, 28, 26, 83, 23, 60, 57, 34, 36, 4, 3, 80, 81, 32, 5]) (by kernel_rfl)
end An
theorem ev1_sign : ∃ s, csignP ev1 kid1 kL1 = (s, 0) := sign_of (by decide +kernel) (by decide +kernel) (by decide)
theorem ev2_sign : ∃ s, csignP ev2 kid2 kL2 = (s, 0) := sign_of (by decide +kernel) (by decide +kernel) (by decide)
theorem take_1 : takeP [] (.ok ev1) = [ev1] := rfl
theorem take_2 : takeP [ev1] (.ok ev2) = [ev1, ev2] := by
 unfold takeP
 dsimp only
 rw [if_neg (by decide +kernel)]
 rfl
theorem gP : Tryz.prog.eqGuardType Tryz.prog.depth 60 = false := by kernel_rfl
theorem kP : Tryz.prog.keyTypeAt 8 60 = true := by kernel_rfl
theorem sP : shapeK Tryz.prog 8 60 = some [.s, .b, .i .i64, .i .i64, .i .i64] := by kernel_rfl
theorem fP : (Value.agg annC.toArray).formed Tryz.prog 60 = true := by kernel_rfl
theorem lP : (litsK [.s, .b, .i .i64, .i .i64, .i .i64] annC).isSome = true := by kernel_rfl
theorem names0 : NamesM zMap [] := fun _ => rfl
theorem anchor_ (H : Hp) (hE : ErrH H) : CallO Tryz.prog 8 [] H [] fun e H' G' => e = .ret (pv (.bool true)) ∧ H.Le H' ∧ G' = [] := by
 obtain ⟨s1, hs1⟩ := ev1_sign
 obtain ⟨s2, hs2⟩ := ev2_sign
 have hl1 : lookP s1 sAs sRx K30 = .ok ev1 := look_sign hs1 rfl rfl rfl
 have hl2 : lookP s2 sAs sRx K30 = .ok ev2 := look_sign hs2 rfl rfl rfl
 have hz1 := csign_size hs1
 have hz2 := csign_size hs2
 refine CallO.of_body An.tab Tryz.func8 rfl (nt := Tryz.f8.ntmps) rfl (by kernel_rfl) ?_
 (conv => whnf)
 refine ⟨⟨_, Tryz.func9, rfl, by kernel_rfl⟩, CallS.use (opened_ H) [] rfl rfl trivial ?_⟩
 rintro e H2 G' hle2 ⟨rfl, hle2', f, hf, rfl⟩
 (conv => whnf)
 refine ⟨⟨_, Tryz.func17, rfl, by kernel_rfl⟩, CallS.use (claims_ (⟨#[101, 54, 46, 49]⟩ : ByteArray) (⟨#[54]⟩ : ByteArray) sAnn 4 1 H2) [] rfl rfl trivial ?_⟩
 rintro e H3 G' hle3 ⟨rfl, rfl, rfl⟩
 (conv => whnf)
 have hsg := signed_ ev1 (by decide) false H3
 rw [show csignP ev1 (kidB false) (keyB false) = (s1, 0) from hs1] at hsg
 refine ⟨⟨_, Tryz.func16, rfl, by kernel_rfl⟩, CallS.use hsg [] rfl rfl trivial ?_⟩
 rintro e H4 G' hle4 ⟨rfl, hle4', rfl⟩
 (conv => whnf)
 have hp := push_ s1 sAs sRx (by omega) K30 2 f 0 zMap [] (by decide) names0 H4 (hE.mono (hle2.trans hle4)) (hf.mono hle4)
 rw [hl1, take_1] at hp
 refine ⟨⟨_, Tryz.func12, rfl, by kernel_rfl⟩, CallS.use hp [0, 1, 2] rfl rfl ⟨rfl, rfl, rfl, trivial⟩ ?_⟩
 rintro e H5 G' hle5 ⟨rfl, hle5', n1, g1, hN1, hG⟩
 obtain rfl := hG.resolve_right (fun h => h.1.1 rfl)
 (conv => whnf)
 refine ⟨⟨_, Tryz.func17, rfl, by kernel_rfl⟩, CallS.use (claims_ (⟨#[101, 53, 46, 49]⟩ : ByteArray) (⟨#[53]⟩ : ByteArray) sAnn 3 2 H5) [] rfl rfl trivial ?_⟩
 rintro e H6 G' hle6 ⟨rfl, rfl, rfl⟩
 (conv => whnf)
 have hsg := signed_ ev2 (by decide) true H6
 rw [show csignP ev2 (kidB true) (keyB true) = (s2, 0) from hs2] at hsg
 refine ⟨⟨_, Tryz.func16, rfl, by kernel_rfl⟩, CallS.use hsg [] rfl rfl trivial ?_⟩
 rintro e H7 G' hle7 ⟨rfl, hle7', rfl⟩
 (conv => whnf)
 have hp := push_ s2 sAs sRx (by omega) K30 2 f n1 g1 [ev1] (by decide) hN1 H7 (hE.mono (((hle2.trans hle4).trans hle5).trans hle7)) (hf.mono ((hle4.trans hle5).trans hle7))
 rw [hl2, take_2] at hp
 refine ⟨⟨_, Tryz.func12, rfl, by kernel_rfl⟩, CallS.use hp [0, 1, 2, 3] rfl rfl ⟨rfl, rfl, rfl, rfl, trivial⟩ ?_⟩
 rintro e H8 G' hle8 ⟨rfl, hle8', n2, g2, hN2, hG⟩
 rcases hG with rfl | ⟨_, rfl⟩
 ·(conv => whnf)
  refine ⟨⟨_, Tryz.func26, rfl, by kernel_rfl⟩, CallS.use (people1 2 f n2 g2 H8 (hE.mono ((((hle2.trans hle4).trans hle5).trans hle7).trans hle8))) [0, 1, 2, 3] rfl rfl ⟨rfl, rfl, rfl, rfl, trivial⟩ ?_⟩
  rintro e H9 G' hle9 ⟨rfl, hle9', rfl⟩
  (conv => whnf)
  refine ⟨⟨by decide, by decide⟩, ?_⟩
  (conv => whnf)
  refine ⟨annC, rfl, cells_at (xs := annC) (a := 0) (m := 5) rfl rfl, ?_⟩
  (conv => whnf)
  change QO _ _ _ _ _ _
  refine QO.agg (t := 60) (ty := 60) (op := .eql) (x := .tmp 34) (y := .tmp 35) ?_ annC annC [.s, .b, .i .i64, .i .i64, .i .i64] ?_ ?_ gP kP sP fP fP lP lP ?_
  ·rfl
  ·rfl
  ·rfl
  intro r hr
  obtain rfl : r = true := hr.2 rfl
  refine .inl ⟨rfl, ?_⟩
  (conv => whnf)
  refine ⟨⟨_, Tryz.func13, rfl, by kernel_rfl⟩, CallS.use (taken1 sAs sRx 2 f n2 g2 ev1 [ev2] (by decide) H9) [0, 1, 2, 3] rfl rfl ⟨rfl, rfl, rfl, rfl, trivial⟩ ?_⟩
  rintro e H10 G' hle10 ⟨rfl, hle10', rfl⟩
  (conv => whnf)
  exact ⟨rfl, (((((hle2.trans hle4).trans hle5).trans hle7).trans hle8).trans hle9).trans hle10, rfl⟩
 ·(conv => whnf)
  refine ⟨⟨_, Tryz.func26, rfl, by kernel_rfl⟩, CallS.use (people1 2 f n2 g2 H8 (hE.mono ((((hle2.trans hle4).trans hle5).trans hle7).trans hle8))) [0, 1, 2, 5] rfl rfl ⟨rfl, rfl, rfl, rfl, trivial⟩ ?_⟩
  rintro e H9 G' hle9 ⟨rfl, hle9', rfl⟩
  (conv => whnf)
  refine ⟨⟨by decide, by decide⟩, ?_⟩
  (conv => whnf)
  refine ⟨annC, rfl, cells_at (xs := annC) (a := 0) (m := 5) rfl rfl, ?_⟩
  (conv => whnf)
  change QO _ _ _ _ _ _
  refine QO.agg (t := 60) (ty := 60) (op := .eql) (x := .tmp 34) (y := .tmp 35) ?_ annC annC [.s, .b, .i .i64, .i .i64, .i .i64] ?_ ?_ gP kP sP fP fP lP lP ?_
  ·rfl
  ·rfl
  ·rfl
  intro r hr
  obtain rfl : r = true := hr.2 rfl
  refine .inl ⟨rfl, ?_⟩
  (conv => whnf)
  refine ⟨⟨_, Tryz.func13, rfl, by kernel_rfl⟩, CallS.use (taken1 sAs sRx 2 f n2 g2 ev1 [ev2] (by decide) H9) [0, 1, 2, 5] rfl rfl ⟨rfl, rfl, rfl, rfl, trivial⟩ ?_⟩
  rintro e H10 G' hle10 ⟨rfl, hle10', rfl⟩
  (conv => whnf)
  exact ⟨rfl, (((((hle2.trans hle4).trans hle5).trans hle7).trans hle8).trans hle9).trans hle10, rfl⟩
end Go.Kx.L30
