/- Values as texts: all of a text; what is thrown and caught. No condition of its own. -/
import Derived.Test.YtdknmcaemebgfaaGreatDoorMY10
import Derived.Shelf.Slices.In.SortNone
import Derived.Test.YtdknmcaemebgfaaGreatDoorProg
import Derived.Shelf.Strconv.AtoiAll
import Derived.Shelf.Strconv.Itoa3
import Derived.Shelf.Strconv.ParseIntPublic10
import Derived.Lib.ParseIntBTie
import Derived.Test.YtdknmcaemebgfaaGreatDoorRows
import Derived.Lib.LaidTab
import Derived.Stop.LaidErr
import Derived.LaidSub
import Derived.MakeChecks
import Derived.Stop.ErrReads
import Derived.Shelf.Lays
namespace Go.Kx.Js
open Go.Proofs Go.Kx Go.RowKit
set_option maxRecDepth 20000
theorem whole_ (s : ByteArray) (hs : s.size ≤ 190000) (d : Nat) (hd : d ≤ 900) (l : List UInt8) (hl : Sfx l (tL s)) (H : Hp) : CallO Tryz.prog 93 [me] H [rdB s l d 0] fun e H' G' => Out s d 0 RJ (wholeP d l) e H' G' := by
 refine CallO.of_body tab Tryz.func93 rfl (nt := Tryz.f93.ntmps) rfl (by kernel_rfl) ?_
 (conv => whnf)
 refine ⟨⟨_, Tryz.func130, rfl, by kernel_rfl⟩, CallS.use (blank_ s l hl (by omega) d 0 _) [0] rfl rfl ⟨rfl, trivial⟩ ?_⟩
 rintro e H2 G' hle2 ⟨rfl, rfl, rfl⟩
 have hl1 := (blankP_sfx l).trans hl
 (conv => whnf)
 refine ⟨⟨_, Tryz.func131, rfl, by kernel_rfl⟩, CallS.use ((value_ s hs d hd d 0 (by omega)).use _ hl1 _) [0] rfl rfl ⟨rfl, trivial⟩ ?_⟩
 intro e H3 G' hle3 hout
 unfold wholeP
 cases hv : valP d (blankP l) with
 | no er r =>
  rw [hv] at hout
  obtain ⟨rfl, l2, o2, rfl⟩ := hout
  (conv => whnf)
  exact ⟨rfl, l2, o2, rfl⟩
 | ok j r =>
  rw [hv] at hout
  obtain ⟨hr, ⟨sv, rfl, k, y, t, A, n, c, B, m, f, rfl, hj⟩, rfl⟩ := hout
  (conv => whnf)
  refine ⟨⟨_, Tryz.func130, rfl, by kernel_rfl⟩, CallS.use (blank_ s r hr (by omega) d 0 _) [0] rfl rfl ⟨rfl, trivial⟩ ?_⟩
  rintro e H4 G' hle4 ⟨rfl, rfl, rfl⟩
  have hl2 := (blankP_sfx r).trans hr
  (conv => whnf)
  refine WS.draw tab mixed (.take 0 (.take 1 (.take 2 (.take 3 (.take 4 (.take 5 (.take 6 (.take 7 (.take 8 (.take 9 .done)))))))))) (by kernel_rfl) [] ?_
  (conv => whnf)
  refine br.of (fun h => ?_) (fun h => ?_) <;> (conv => whnf)
  ·have h := of_decide_eq_true h
   refine ⟨⟨_, Tryz.func132, rfl, by kernel_rfl⟩, CallS.use (stop_ s _ d 0 _) [0] rfl rfl ⟨rfl, trivial⟩ ?_⟩
   rintro e H5 G' hle5 ⟨rfl, rfl, rfl⟩
   (conv => whnf)
   show Out s d 0 RJ (match blankP r with | [] => .ok j [] | c :: r2 => .no 31 (c :: r2)) _ _ _
   cases hb : blankP r with
   | nil => rw [hb, pos_nil] at h; omega
   | cons c r2 => exact ⟨rfl, c :: r2, 0, rfl⟩
  ·have h := of_decide_eq_false h
   show Out s d 0 RJ (match blankP r with | [] => .ok j [] | c :: r2 => .no 31 (c :: r2)) _ _ _
   cases hb : blankP r with
   | nil => exact ⟨by rw [hb] at hl2; exact hl2, ⟨_, rfl, _, _, _, _, _, _, _, _, _, rfl, hj⟩, rfl⟩
   | cons c r2 =>
    rw [hb] at h hl2
    have := pos_lt hl2
    omega
def zAg : SG := .ag [.val (.int .i64 0), .val (.bool false), .val (.string ⟨#[]⟩), .val (.slice none 0 0), .val (.slice none 0 0)]
def RC (s : ByteArray) (res : Res J) (e : SE) (H' : Hp) : Prop :=
 match res with
 | .ok j _ => ∃ k y t A n c B m f, e = .ret (.tu [.ag [.val (.int .i64 k), .val (.bool y), .val (.string t), .val (.slice A n c), .val (.slice B m f)], .ag [.val (.int .i64 0), .val (.int .i64 0)]]) ∧ JAt H' j [.int .i64 k, .bool y, .string t, .slice A n c, .slice B m f]
 | .no er r => e = .ret (.tu [zAg, .ag [.val (.int .i64 (er : Int)), .val (.int .i64 ((pos s r : Nat) : Int))]])
theorem CallDS.use {P : Program} {f : FuncId} {svs : List SV} {u : FrameMode} {H : Hp} {G : List SB} {K K' : FrameMode → Hp → List SB → Prop} (h : CallDO P f svs u H G K) (hk : ∀ u' H' G', H.Le H' → K u' H' G' → K' u' H' G') : CallDS P f svs u H G K' := by
 refine ⟨fun w0 M hgd H0 ρ w vs hs hv => (h w0 M hgd H0 ρ w vs hs hv).mono fun e u' w' he => ?_⟩
 cases e with
 | returned v => obtain ⟨ρ', H', G', h1, h2, h3, h4⟩ := he; exact ⟨ρ', H', G', h1, h2, h3, hk _ _ _ h3 h4⟩
 | panicked ch => exact he
 | outgrown => exact he
def zV : SB := .box 34 [.val (.int .i64 0), .val (.bool false), .val (.string ⟨#[]⟩), .val (.slice none 0 0), .val (.slice none 0 0)]
def fB (e p : Int) : SB := .box 133 [.val (.int .i64 e), .val (.int .i64 p)]
theorem catchYes (s : ByteArray) (l r : List UInt8) (d o : Int) (er : Nat) (H : Hp) : CallDO Tryz.prog 129 [.si (.ce (.ptr 1 0)), .si (.ce (.ptr 2 0))] (.panicking [⟨faultV er (pos s r), false, false⟩]) H [rdB s l d o, zV, fB 0 0] fun u H' G' => u = .panicking [⟨faultV er (pos s r), true, false⟩] ∧ H' = H ∧ G' = [rdB s l d o, zV, fB er ((pos s r : Nat) : Int)] := by
 refine CallDO.of_body tab Tryz.func129 rfl rfl rfl rfl (nt := Tryz.f129.ntmps) rfl (by kernel_rfl) ?_
 (conv => whnf)
 refine WS.draw tab mixed (.take 0 (.take 1 (.alt 2 (.alt 3 .done .no) .no))) (by kernel_rfl) [1, 2] ?_
 (conv => whnf)
 repeat' (first
  | exact trivial
  | exact rfl
  | (refine And.intro ?_ ?_ <;> (conv => whnf)))
theorem catchNo (s : ByteArray) (l : List UInt8) (d o : Int) (b : List SC) (H : Hp) : CallDO Tryz.prog 129 [.si (.ce (.ptr 1 0)), .si (.ce (.ptr 2 0))] .returning H [rdB s l d o, .box 34 b, fB 0 0] fun u H' G' => u = .returning ∧ H' = H ∧ G' = [rdB s l d o, .box 34 b, fB 0 0] := by
 refine CallDO.of_body tab Tryz.func129 rfl rfl rfl rfl (nt := Tryz.f129.ntmps) rfl (by kernel_rfl) ?_
 (conv => whnf)
 split <;> exact ⟨rfl, rfl, rfl⟩
theorem caught_ (s : ByteArray) (hs : s.size ≤ 190000) (d : Nat) (hd : d ≤ 900) (l : List UInt8) (hl : Sfx l (tL s)) (H : Hp) : CallO Tryz.prog 92 [.si (.ce (.fn (.func 93) 1 [(0, 0)]))] H [rdB s l d 0] fun e H' G' => RC s (wholeP d l) e H' ∧ ∃ l' o', G' = [rdB s l' d o'] := by
 refine CallO.of_bodyD tab Tryz.func92 rfl (pre := [_]) rfl rfl rfl (nt := Tryz.f92.ntmps) rfl (by kernel_rfl) [2, 3] ?_
 (conv => whnf)
 refine ⟨⟨_, Tryz.func129, rfl, by kernel_rfl⟩, ?_⟩
 (conv => whnf)
 intro ds vs
 (conv => whnf)
 refine ⟨⟨_, Tryz.func93, rfl, by kernel_rfl⟩, CallS.use (whole_ s hs d hd l hl H) [0] rfl rfl ⟨rfl, trivial⟩ ?_⟩
 intro e H2 G' hle2 hout
 cases hw : wholeP d l with
 | no er r =>
  rw [hw] at hout
  obtain ⟨rfl, l2, o2, rfl⟩ := hout
  (conv => whnf)
  refine CallDS.use (catchYes s l2 r d o2 er H2) ?_
  rintro u' H3 G' hle3 ⟨rfl, rfl, rfl⟩
  (conv => whnf)
  exact ⟨rfl, l2, o2, rfl⟩
 | ok j r =>
  rw [hw] at hout
  obtain ⟨hr, ⟨sv, rfl, k, y, t, A, n, c, B, m, f, rfl, hj⟩, rfl⟩ := hout
  (conv => whnf)
  refine CallDS.use (catchNo s r d 0 _ H2) ?_
  rintro u' H3 G' hle3 ⟨rfl, rfl, rfl⟩
  (conv => whnf)
  exact ⟨⟨_, _, _, _, _, _, _, _, _, rfl, hj⟩, r, 0, rfl⟩
end Go.Kx.Js
namespace Go.Kx.Rt
open Go.Proofs Go.Kx Go.RowKit Go.Kx.Js Go.Kx.Pr
set_option maxRecDepth 20000
set_option linter.unusedSimpArgs false
def T : Tab := [(34, { k := TK.st [(0, 3, 1), (1, 4, 1), (2, 9, 1), (3, 31, 1), (4, 32, 1)], agg := true, size := 5, bytes := 80, zero := [Z.i IntKind.i64, Z.b, Z.s, Z.sl, Z.sl] }), (52, { k := TK.st [(0, 9, 1), (1, 34, 5)], agg := true, size := 6, bytes := 96, zero := [Z.s, Z.i IntKind.i64, Z.b, Z.s, Z.sl, Z.sl] }), (133, { k := TK.st [(0, 35, 1), (1, 3, 1)], agg := true, size := 2, bytes := 16, zero := [Z.i IntKind.i64, Z.i IntKind.i64] }), (131, { k := TK.st [(0, 9, 1), (1, 3, 1), (2, 3, 1), (3, 3, 1)], agg := true, size := 4, bytes := 40, zero := [Z.s, Z.i IntKind.i64, Z.i IntKind.i64, Z.i IntKind.i64] }), (74, { k := TK.st [(0, 72, 1), (1, 55, 1)], agg := true, size := 2, bytes := 32, zero := [Z.p, Z.sl] }), (5, { k := TK.int IntKind.u8, agg := false, size := 1, bytes := 1, zero := [Z.i IntKind.u8] }), (9, { k := TK.string, agg := false, size := 1, bytes := 16, zero := [Z.s] }), (35, { k := TK.int IntKind.i64, agg := false, size := 1, bytes := 8, zero := [Z.i IntKind.i64] }), (4, { k := TK.bool, agg := false, size := 1, bytes := 1, zero := [Z.b] }), (72, { k := TK.ptr 74, agg := false, size := 1, bytes := 8, zero := [Z.p] }), (3, { k := TK.int IntKind.i64, agg := false, size := 1, bytes := 8, zero := [Z.i IntKind.i64] }), (31, { k := TK.slice 34, agg := false, size := 1, bytes := 24, zero := [Z.sl] }), (108, { k := TK.func, agg := false, size := 1, bytes := 8, zero := [Z.fn] }), (32, { k := TK.slice 52, agg := false, size := 1, bytes := 24, zero := [Z.sl] }), (129, { k := TK.ptr 131, agg := false, size := 1, bytes := 8, zero := [Z.p] }), (69, { k := TK.func, agg := false, size := 1, bytes := 8, zero := [Z.fn] }), (62, { k := TK.slice 9, agg := false, size := 1, bytes := 24, zero := [Z.sl] }), (1, { k := TK.func, agg := false, size := 1, bytes := 8, zero := [Z.fn] }), (55, { k := TK.slice 5, agg := false, size := 1, bytes := 24, zero := [Z.sl] })]
set_option maxRecDepth 100000 in
theorem tab : TabOk Tryz.prog T := tabOk_mk (ts := [34, 52, 133, 131, 74, 5, 9, 35, 4, 72, 3, 31, 108, 32, 129, 69, 62, 1, 55]) (by kernel_rfl)
theorem mixed : Tryz.prog.follows .mixedOrders = true := by kernel_rfl
theorem told_ (t : ByteArray) (ht : t.size ≤ 1000000) (H : Hp) : CallO Tryz.prog 62 [pv (.string t)] H [] fun e _ G' => e = .ret (pv (.bool (toldP t))) ∧ G' = [] := by
 refine CallO.of_body tab Tryz.func62 rfl (nt := Tryz.f62.ntmps) rfl (by kernel_rfl) ?_
 (conv => whnf)
 refine ⟨⟨_, Tryz.func91, rfl, by kernel_rfl⟩, CallS.use (wrong_ t ht H) [] rfl rfl trivial ?_⟩
 rintro e H2 G' hle ⟨rfl, rfl⟩
 (conv => whnf)
 exact ⟨rfl, rfl⟩
def RN (s : ByteArray) (res : Res ByteArray) (e : SE) : Prop :=
 match res with
 | .ok v _ => e = .ret (.tu [.ag [.val (.int .i64 3), .val (.bool false), .val (.string v), .val (.slice none 0 0), .val (.slice none 0 0)], .ag [.val (.int .i64 0), .val (.int .i64 0)]])
 | .no er r => e = .ret (.tu [zAg, .ag [.val (.int .i64 (er : Int)), .val (.int .i64 ((Js.pos s r : Nat) : Int))]])
theorem caughtN (s : ByteArray) (hs : s.size ≤ 190000) (l : List UInt8) (hl : Sfx l (tL s)) (H : Hp) : CallO Tryz.prog 92 [.si (.ce (.fn (.func 103) 1 [(0, 0)]))] H [rdB s l 0 0] fun e _ G' => RN s (numberP l) e ∧ ∃ l' o', G' = [rdB s l' 0 o'] := by
 refine CallO.of_bodyD tab Tryz.func92 rfl (pre := [_]) rfl rfl rfl (nt := Tryz.f92.ntmps) rfl (by kernel_rfl) [2, 3] ?_
 (conv => whnf)
 refine ⟨⟨_, Tryz.func129, rfl, by kernel_rfl⟩, ?_⟩
 (conv => whnf)
 intro ds vs
 (conv => whnf)
 refine ⟨⟨_, Tryz.func103, rfl, by kernel_rfl⟩, CallS.use (number_ s l hl (by omega) 0 0 H) [0] rfl rfl ⟨rfl, trivial⟩ ?_⟩
 rintro e H2 G' hle2 ⟨rfl, hout⟩
 cases hw : numberP l with
 | no er r =>
  rw [hw] at hout
  obtain ⟨rfl, l2, o2, rfl⟩ := hout
  (conv => whnf)
  refine CallDS.use (catchYes s l2 r 0 o2 er H2) ?_
  rintro u' H3 G' hle3 ⟨rfl, rfl, rfl⟩
  (conv => whnf)
  exact ⟨rfl, l2, o2, rfl⟩
 | ok v r =>
  rw [hw] at hout
  obtain ⟨hr, ⟨sv, rfl, rfl⟩, rfl⟩ := hout
  (conv => whnf)
  refine CallDS.use (catchNo s r 0 0 _ H2) ?_
  rintro u' H3 G' hle3 ⟨rfl, rfl, rfl⟩
  (conv => whnf)
  exact ⟨rfl, r, 0, rfl⟩
theorem err_pos {l : List UInt8} {er : Nat} {r : List UInt8} (h : numberP l = .no er r) : er ≠ 0 := by
 have hd : ∀ {l : List UInt8} {er : Nat} {r : List UInt8}, digitsP l = .no er r → er ≠ 0 := fun {l er r} h => by
  unfold digitsP at h
  split at h
  ·cases h
  ·injection h with h; omega
 have h4 : ∀ {l : List UInt8} {er : Nat} {r : List UInt8}, num4 l = .no er r → er ≠ 0 := fun {l er r} h => by
  unfold num4 at h
  split at h <;> exact hd h
 unfold numberP at h
 cases h1 : num1 (optP 45 l) with
 | no e1 r1 =>
  rw [h1] at h
  injection h with h h'
  subst h
  unfold num1 at h1
  split at h1
  ·cases h1
  ·exact hd h1
 | ok x r1 =>
  rw [h1] at h
  change (num2 r1).bind _ = _ at h
  cases h2 : num2 r1 with
  | no e1 r2 =>
   rw [h2] at h
   injection h with h h'
   subst h
   unfold num2 at h2
   split at h2
   ·exact hd h2
   ·cases h2
  | ok x r2 =>
   rw [h2] at h
   change (num3 r2).bind _ = _ at h
   cases h3 : num3 r2 with
   | no e1 r3 =>
    rw [h3] at h
    injection h with h h'
    subst h
    unfold num3 at h3
    split at h3
    ·exact h4 h3
    ·split at h3
     ·exact h4 h3
     ·cases h3
   | ok x r3 =>
    rw [h3] at h
    cases h
theorem numeric_ (t : ByteArray) (ht : t.size ≤ 190000) (H : Hp) : CallO Tryz.prog 69 [pv (.string t)] H [] fun e _ G' => e = .ret (pv (.bool (numericP t))) ∧ G' = [] := by
 refine CallO.of_body tab Tryz.func69 rfl (nt := Tryz.f69.ntmps) rfl (by kernel_rfl) ?_
 (conv => whnf)
 have hrd0 : SB.box 131 [.val (.string t), .val (.int .i64 0), .val (.int .i64 0), .val (.int .i64 0)] = rdB t (tL t) 0 0 := by
  unfold rdB Js.pos
  rw [Nat.sub_self]; rfl
 refine ⟨⟨_, Tryz.func92, rfl, by kernel_rfl⟩, CallS.use (caughtN t ht (tL t) (.refl _) H) [0] rfl rfl ⟨?_, trivial⟩ ?_⟩
 ·exact hrd0
 rintro e H5 G' hle5 ⟨hrc, l2, o2, rfl⟩
 unfold numericP
 cases hnp : numberP (tL t) with
 | no er r =>
  rw [hnp] at hrc
  obtain rfl := hrc
  have her := err_pos hnp
  generalize hei : ((er : Nat) : Int) = ei
  (conv => whnf)
  refine br.of (fun h => ?_) (fun h => ?_) <;> (conv => whnf)
  ·simp only [beq_iff_eq] at h
   omega
  ·refine ⟨?_, rfl⟩
   show _ = SE.ret (pv (.bool (match numberP (tL t) with | .ok v _ => strEq v t | .no _ _ => false)))
   rw [hnp]; rfl
 | ok v r =>
  rw [hnp] at hrc
  obtain rfl := hrc
  (conv => whnf)
  refine ⟨?_, rfl⟩
  show _ = SE.ret (pv (.bool (match numberP (tL t) with | .ok v _ => strEq v t | .no _ _ => false)))
  rw [hnp]; rfl
theorem bare_ (j : J) (k : Int) (y : Bool) (t : ByteArray) (A : Option Addr) (n c : Nat) (B : Option Addr) (m d : Nat) (H : Hp) (hj : JAt H j [.int .i64 k, .bool y, .string t, .slice A n c, .slice B m d]) : CallO Tryz.prog 68 [agJ k y t A n c B m d] H [] fun e H' G' => H' = H ∧ e = .ret (pv (.bool (bareJ j))) ∧ G' = [] := by
 cases hj with
 | mk hn1 hx1 hv1 hn2 hx2 hv2 =>
 rename_i js ms xs zs
 have hbj : bareJ (.mk k y t js ms) = ((k == 2 || !y) && (k == 3 || k == 4 || strEq t ⟨#[]⟩) && (k == 5 || js.length == 0) && (k == 6 || ms.length == 0)) := rfl
 rw [hbj, ← hn1, ← hn2]
 generalize hnI : ((n : Nat) : Int) = nI
 generalize hmI : ((m : Nat) : Int) = mI
 have hn3 : (n == 0) = (nI == 0) := by rw [← hnI]; cases n <;> simp <;> omega
 have hm3 : (m == 0) = (mI == 0) := by rw [← hmI]; cases m <;> simp <;> omega
 rw [hn3, hm3]
 refine CallO.of_body tab Tryz.func68 rfl (nt := Tryz.f68.ntmps) rfl (by kernel_rfl) ?_
 (conv => whnf)
 repeat' (refine br.of (fun h => ?_) (fun h => ?_) <;> (conv => whnf))
 all_goals
  clear hn3 hm3 hbj
  subst hnI hmI hn1 hn2
  refine ⟨rfl, congrArg (fun b => SE.ret (pv (.bool b))) ?_, rfl⟩
  simp only [*, Bool.not_true, Bool.not_false, Bool.true_or, Bool.or_true, Bool.false_or, Bool.or_false, Bool.true_and, Bool.and_true, Bool.false_and, Bool.and_false]
end Go.Kx.Rt
namespace Go.Kx.Rt
open Go.Proofs Go.Kx Go.RowKit Go.Kx.Js Go.Kx.Pr
set_option maxRecDepth 20000
set_option linter.unusedSimpArgs false
mutual
def smJ : J → Prop
 | .mk _ _ t js ms => t.size ≤ 190000 ∧ js.length ≤ 1000000 ∧ ms.length ≤ 1000000 ∧ smJs js ∧ smMs ms
def smJs : List J → Prop
 | [] => True
 | j :: r => smJ j ∧ smJs r
def smMs : List (ByteArray × J) → Prop
 | [] => True
 | (s, j) :: r => s.size ≤ 190000 ∧ smJ j ∧ smMs r
end
theorem smJs_get {js : List J} (h : smJs js) {i : Nat} {j : J} (hi : js[i]? = some j) : smJ j := by
 induction js generalizing i with
 | nil => simp at hi
 | cons a r ih =>
  simp only [smJs] at h
  cases i with
  | zero => simp at hi; subst hi; exact h.1
  | succ i => exact ih h.2 (i := i) (by simpa using hi)
theorem smMs_get {ms : List (ByteArray × J)} (h : smMs ms) {i : Nat} {s : ByteArray} {j : J} (hi : ms[i]? = some (s, j)) : s.size ≤ 190000 ∧ smJ j := by
 induction ms generalizing i with
 | nil => simp at hi
 | cons a r ih =>
  obtain ⟨s0, j0⟩ := a
  simp only [smMs] at h
  cases i with
  | zero => simp at hi; obtain ⟨rfl, rfl⟩ := hi; exact ⟨h.1, h.2.1⟩
  | succ i => exact ih h.2.2 (i := i) (by simpa using hi)
def RtSays (j : J) : Prop := ∀ (k : Int) (y : Bool) (t : ByteArray) (A : Option Addr) (n c : Nat) (B : Option Addr) (m d : Nat) (H : Hp), JAt H j [.int .i64 k, .bool y, .string t, .slice A n c, .slice B m d] →
 CallO Tryz.prog 37 [agJ k y t A n c B m d] H [] fun e H' G' => e = .ret (pv (.bool (rightJ j))) ∧ H.Le H' ∧ G' = []
theorem RtSays.use {j : J} (h : RtSays j) {k : Int} {y : Bool} {t : ByteArray} {A : Option Addr} {n c : Nat} {B : Option Addr} {m d : Nat} {H : Hp} (hj : JAt H j [.int .i64 k, .bool y, .string t, .slice A n c, .slice B m d]) :
 CallO Tryz.prog 37 [agJ k y t A n c B m d] H [] fun e H' G' => e = .ret (pv (.bool (rightJ j))) ∧ H.Le H' ∧ G' = [] := h k y t A n c B m d H hj
def nmC (ms : List (ByteArray × J)) : List Value := ms.map fun p => Value.string p.1
theorem nmC_take {ms : List (ByteArray × J)} {i : Nat} {s : ByteArray} {j : J} (h : ms[i]? = some (s, j)) : nmC (ms.take (i + 1)) = nmC (ms.take i) ++ [.string s] := by
 unfold nmC
 rw [List.take_add_one, h]; simp
theorem rightMs_take {ms : List (ByteArray × J)} {i : Nat} {s : ByteArray} {j : J} (h : ms[i]? = some (s, j)) (hi : rightMs (ms.take i) = true) : rightMs (ms.take (i + 1)) = (toldP s && rightJ j) := by
 induction ms generalizing i with
 | nil => simp at h
 | cons a r ih =>
  obtain ⟨s0, j0⟩ := a
  cases i with
  | zero => simp at h; obtain ⟨rfl, rfl⟩ := h; simp [rightMs]
  | succ i =>
   simp only [List.take_succ_cons, rightMs, Bool.and_eq_true] at hi ⊢
   rw [ih (by simpa using h) hi.2, hi.1.1, hi.1.2]; rfl
theorem rightMs_of_take {ms : List (ByteArray × J)} {i : Nat} (h : rightMs (ms.take i) = false) : rightMs ms = false := by
 induction ms generalizing i with
 | nil => simp [rightMs] at h
 | cons a r ih =>
  obtain ⟨s0, j0⟩ := a
  cases i with
  | zero => simp [rightMs] at h
  | succ i =>
   simp only [List.take_succ_cons, rightMs, Bool.and_eq_false_iff] at h ⊢
   rcases h with h | h
   ·exact .inl h
   ·exact .inr (ih h)
theorem sort0 (H : Hp) : CallO Tryz.prog 105 [pv (.slice none 0 0)] H [] fun e H' G' => e = .ret (.tu []) ∧ H' = H ∧ G' = [] := by
 refine (CallO.of_calls (P := Tryz.prog) (args := [.slice none 0 0]) (R := fun v => v = .tuple #[]) fun w _ _ => (Go.Proofs.Any.slices_Sort_string_none Tryz.laysSort none 0 w).mono ?_).mono ?_
 ·rintro e w' ⟨rfl, rfl⟩
  exact ⟨_, rfl, rfl, rfl, rfl, rfl, Nat.le_refl _, fun _ _ _ => rfl⟩
 ·rintro e H' G' hle ⟨v, rfl, rfl, rfl, rfl⟩
  exact ⟨rfl, rfl, rfl⟩
theorem compact0 (H : Hp) : CallO Tryz.prog 106 [pv (.slice none 0 0)] H [] fun e H' G' => e = .ret (pv (.slice none 0 0)) ∧ H' = H ∧ G' = [] := by
 refine (CallO.of_calls (P := Tryz.prog) (args := [.slice none 0 0]) (R := fun v => v = .slice none 0 0) fun w _ _ => (Any.slices_Compact_string_empty Tryz.laysCompact none 0 w).mono ?_).mono ?_
 ·rintro e w' ⟨rfl, rfl⟩
  exact ⟨_, rfl, rfl, rfl, rfl, rfl, Nat.le_refl _, fun _ _ _ => rfl⟩
 ·rintro e H' G' hle ⟨v, rfl, rfl, rfl, rfl⟩
  exact ⟨rfl, rfl, rfl⟩
theorem nmC_strs (ms : List (ByteArray × J)) : nmC ms = So.strs ((ms.map (·.1)).map fun s => s.data.toList) := by
 unfold nmC So.strs
 simp only [List.map_map]
 rfl
theorem named_ (k : Int) (y : Bool) (t : ByteArray) (js : List J) (ms : List (ByteArray × J)) (hsm : smMs ms) (hml : ms.length ≤ 1000000) (hms : ∀ (i : Nat) (s : ByteArray) (j : J), ms[i]? = some (s, j) → RtSays j) (A : Option Addr) (n c : Nat) (B : Option Addr) (m d : Nat) (H : Hp) (hj : JAt H (.mk k y t js ms) [.int .i64 k, .bool y, .string t, .slice A n c, .slice B m d]) :
  CallO Tryz.prog 72 [agJ k y t A n c B m d] H [] fun e H' G' => e = .ret (pv (.bool (rightMs ms && noTwice (ms.map (·.1))))) ∧ H.Le H' ∧ G' = [] := by
 cases hj with
 | mk hn1 hx1 hv1 hn2 hx2 hv2 =>
 rename_i xs zs
 cases ms with
 | nil =>
  subst hn2
  refine CallO.of_body tab Tryz.func72 rfl (nt := Tryz.f72.ntmps) rfl (by kernel_rfl) ?_
  (conv => whnf)
  refine WS.loop (fun k' F H3 G => k' = 0 ∧ F = [(1, .si (.ce (.ptr 0 0))), (3, pv (.slice none 0 0)), (8, pv (.int .i64 0)), (9, pv (.int .i64 0))] ∧ H.Le H3 ∧ G = [.box 34 [.val (.int .i64 k), .val (.bool y), .val (.string t), .val (.slice A n c), .val (.slice B 0 d)]]) 1 ?_ ?_
  ·refine ⟨0, by omega, _, _, [0], ⟨rfl, rfl, .refl _, rfl⟩, ?_⟩
   exact ⟨rfl, ⟨rfl, trivial⟩, rfl, rfl, rfl, rfl, trivial⟩
  rintro k' F H3 G hle3 ⟨rfl, rfl, hle4, rfl⟩
  refine codeL.go tab ?_
  (conv => whnf)
  refine ⟨⟨_, Tryz.func105, rfl, by kernel_rfl⟩, CallS.use (sort0 H3) [] rfl rfl trivial ?_⟩
  rintro e H4 G' hle5 ⟨rfl, rfl, rfl⟩
  (conv => whnf)
  refine WS.draw tab mixed (.take 0 (.take 3 (.take 4 (.take 5 (.alt 1 (.take 2 (.take 6 (.take 7 .done))) .no))))) (by kernel_rfl) [] ?_
  (conv => whnf)
  repeat' (first | exact trivial | exact rfl | exact hle4 | (refine ⟨⟨_, Tryz.func106, rfl, by kernel_rfl⟩, CallS.use (compact0 H4) [] rfl rfl trivial ?_⟩; rintro e H5 G' hle6 ⟨rfl, rfl, rfl⟩; (conv => whnf)) | (refine And.intro ?_ ?_ <;> (conv => whnf)))
  have hno : (rightMs [] && noTwice (([] : List (ByteArray × J)).map (·.1))) = true := by
   simp [rightMs, noTwice, Lib.compact, Lib.compactUpTo]
  rw [hno]
  rfl
 | cons m0 mr =>
 generalize hms0 : m0 :: mr = ms at *
 refine CallO.of_body tab Tryz.func72 rfl (nt := Tryz.f72.ntmps) rfl (by kernel_rfl) ?_
 (conv => whnf)
 refine WS.nilRow 3 9 1 rfl ?_
 (conv => whnf)
 subst hn2
 refine WS.loop (fun k' F H3 G => ∃ i : Nat, i ≤ List.length ms ∧ rightMs (ms.take i) = true ∧ k' = List.length ms - i ∧ F = [(1, .si (.ce (.ptr 0 0))), (3, .si (.ce (.self 1))), (7, pv (.slice B (List.length ms) d)), (8, pv (.int .i64 (List.length ms))), (9, pv (.int .i64 i))] ∧ H.Le H3 ∧ G = [.box 34 [.val (.int .i64 k), .val (.bool y), .val (.string t), .val (.slice A n c), .val (.slice B (List.length ms) d)], .row 9 1 i (nmC (ms.take i))]) (List.length ms + 1) ?_ ?_
 ·refine ⟨List.length ms, by omega, _, _, [0, 1], ⟨0, by omega, by rw [List.take_zero]; rfl, rfl, rfl, .refl _, rfl⟩, ?_⟩
  exact ⟨rfl, ⟨rfl, rfl, trivial⟩, rfl, rfl, rfl, rfl, rfl, trivial⟩
 rintro k' F H3 G hle3 ⟨i, hi, hrt, rfl, rfl, hle4, rfl⟩
 refine codeL.go tab ?_
 (conv => whnf)
 refine br.of (fun h7 => ?_) (fun h7 => ?_) <;> (conv => whnf)
 ·have h7 := of_decide_eq_true h7
  have hil : i < (List.length ms) := by omega
  have hget : ms[i]? = some (ms[i]'hil) := List.getElem?_eq_getElem _
  generalize ms[i]'hil = e0 at hget
  obtain ⟨s0, j0⟩ := e0
  obtain ⟨cs, hj0, hcs⟩ := hx2.get hget
  obtain ⟨A2, n2, c2, B2, m2, d2, rfl⟩ := hj0.cells
  have hlen0 : zs.length ≠ 0 := by rw [hx2.length]; omega
  refine ⟨⟨by omega, by omega⟩, hv2.addr2 hlen0, ?_⟩
  (conv => whnf)
  refine ⟨_, rfl, ((hv2.mono (hle4))).cells2 hlen0 hcs (by show (i : Int).toNat * 6 = _; omega), ?_⟩
  (conv => whnf)
  obtain ⟨hs0, hj1⟩ := smMs_get hsm hget
  have hr0 := hms i s0 j0 hget
  refine ⟨⟨_, Tryz.func62, rfl, by kernel_rfl⟩, CallS.use (told_ s0 (by omega) H3) [] rfl rfl trivial ?_⟩
  rintro e H4 G' hle5 ⟨rfl, rfl⟩
  have hrt2 := rightMs_take hget hrt
  cases htd : toldP s0
  all_goals
   rw [htd] at hrt2
   (conv => whnf)
  ·refine ⟨?_, hle4.trans hle5, rfl⟩
   rw [rightMs_of_take (by rw [hrt2]; rfl)]; rfl
  refine ⟨⟨_, Tryz.func37, rfl, by kernel_rfl⟩, CallS.use (hr0.use (hj0.mono (hle4.trans hle5))) [] rfl rfl trivial ?_⟩
  rintro e H5 G' hle6 ⟨rfl, hle7, rfl⟩
  cases hrj : rightJ j0
  all_goals
   rw [hrj] at hrt2
   (conv => whnf)
  ·refine ⟨?_, hle4.trans (hle5.trans hle7), rfl⟩
   rw [rightMs_of_take (by rw [hrt2]; rfl)]; rfl
  refine ⟨by decide, ?_⟩
  (conv => whnf)
  refine .inl ?_
  intro g H6 hle8 hrd
  (conv => whnf)
  refine ⟨[.string s0], rfl, hrd, fun u hu => by rw [List.mem_singleton] at hu; subst hu; rfl, ?_⟩
  (conv => whnf)
  refine ⟨by show (i + 1) * 17 ≤ _; omega, ?_⟩
  (conv => whnf)
  rw [wrap64 (x := (i : Int) + 1) (by omega) (by omega)]
  refine ⟨List.length ms - (i + 1), by omega, _, [.box 34 [.val (.int .i64 k), .val (.bool y), .val (.string t), .val (.slice A n c), .val (.slice B (List.length ms) d)], .row 9 1 (i + 1) (nmC (ms.take (i + 1)))], [0, 3], ⟨i + 1, by omega, hrt2, rfl, rfl, hle4.trans (hle5.trans (hle7.trans hle8)), rfl⟩, ?_⟩
  rw [nmC_take hget]
  exact ⟨rfl, ⟨rfl, rfl, trivial⟩, rfl, rfl, rfl, rfl, rfl, trivial⟩
 have h7 := of_decide_eq_false h7
 obtain rfl : i = List.length ms := by omega
 rw [List.take_of_length_le (Nat.le_refl _)] at hrt ⊢
 rw [nmC_strs]
 generalize hN : (ms.map (·.1)).map (fun s => s.data.toList) = N
 have hNl : N.length = ms.length := by rw [← hN]; simp
 rw [← hNl]
 refine ⟨⟨_, Tryz.func105, rfl, by kernel_rfl⟩, CallS.use (So.sort_ N (by omega) (by rw [hNl, ← hms0]; simp) H3) [1] rfl rfl ⟨rfl, trivial⟩ ?_⟩
 rintro e H4 G' hle5 ⟨rfl, rfl, rfl⟩
 (conv => whnf)
 refine WS.draw tab mixed (.take 0 (.take 3 (.take 4 (.take 5 (.alt 1 (.take 2 (.take 6 (.take 7 .done))) .no))))) (by kernel_rfl) [1] ?_
 (conv => whnf)
 repeat' (first | exact trivial | exact rfl | exact hle4 | (refine ⟨⟨_, Tryz.func106, rfl, by kernel_rfl⟩, CallS.use (So.compact_ (So.sortL N) (by rw [So.sortL_length]; omega) (by rw [So.sortL_length, hNl, ← hms0]; simp) H4) [1] (by rw [So.sortL_length]; rfl) rfl ⟨by rw [So.sortL_length]; rfl, trivial⟩ ?_⟩; rintro e H5 G' hle6 ⟨⟨Ac, cc, rfl⟩, rfl, rfl⟩; (conv => whnf)) | (refine And.intro ?_ ?_ <;> (conv => whnf)))
 have hno : noTwice (ms.map (·.1)) = ((Lib.compact (So.sortL N)).length == N.length) := by
  unfold noTwice
  rw [hN, hNl]; simp
  rfl
 rw [hrt, hno]
 generalize (Lib.compact (So.sortL N)).length = a
 generalize N.length = b
 refine congrArg (fun b => SE.ret (pv (.bool b))) ?_
 rw [Bool.true_and, Bool.eq_iff_iff]
 simp only [beq_iff_eq]
 omega
end Go.Kx.Rt
namespace Go.Kx.Rt
open Go.Proofs Go.Kx Go.RowKit Go.Kx.Js Go.Kx.Pr Go.Kx.Bu
set_option maxRecDepth 20000
set_option linter.unusedSimpArgs false
theorem rightJs_of_get {js : List J} {i : Nat} {j : J} (hi : js[i]? = some j) (h : rightJ j = false) : rightJs js = false := by
 cases hr : rightJs js with
 | false => rfl
 | true => rw [rightJs_get hr hi] at h; cases h
theorem rightJs_all {js : List J} (h : ∀ (i : Nat) (j : J), js[i]? = some j → rightJ j = true) : rightJs js = true := by
 induction js with
 | nil => rfl
 | cons a r ih =>
  simp only [rightJs, Bool.and_eq_true]
  exact ⟨h 0 a rfl, ih fun i j hi => h (i + 1) j (by simpa using hi)⟩
theorem right1 (j : J) (hr : RtSays j) (k : Int) (y : Bool) (t : ByteArray) (A : Option Addr) (n c : Nat) (B : Option Addr) (m d : Nat) (H : Hp) (hj : JAt H j [.int .i64 k, .bool y, .string t, .slice A n c, .slice B m d]) :
  CallO Tryz.prog 71 [agJ k y t A n c B m d] H [] fun e H' G' => e = .ret (pv (.bool (!rightJ j))) ∧ H.Le H' ∧ G' = [] := by
 refine CallO.of_body tab Tryz.func71 rfl (nt := Tryz.f71.ntmps) rfl (by kernel_rfl) ?_
 (conv => whnf)
 refine ⟨⟨_, Tryz.func37, rfl, by kernel_rfl⟩, CallS.use (hr.use hj) [] rfl rfl trivial ?_⟩
 rintro e H5 G' hle6 ⟨rfl, hle7, rfl⟩
 (conv => whnf)
 exact ⟨rfl, hle7, rfl⟩
theorem index_ (js : List J) (hl : js.length ≤ 1000000) (hjs : ∀ (i : Nat) (j : J), js[i]? = some j → RtSays j) (A : Option Addr) (xs : List Value) (c : Nat) (H : Hp) (hx1 : JsAt H js xs) (hv1 : RdV H A xs) :
  CallO Tryz.prog 104 [pv (.slice A js.length c), .si (.ce (.fn (.func 71) 0 []))] H [] fun e H' G' => (∃ i : Int, (rightJs js = true → i = -1) ∧ (rightJs js = false → 0 ≤ i) ∧ e = .ret (pv (.int .i64 i))) ∧ H.Le H' ∧ G' = [] := by
 refine CallO.of_body tab Tryz.func104 rfl (nt := Tryz.f104.ntmps) rfl (by kernel_rfl) ?_
 (conv => whnf)
 refine WS.loop (fun k' F H3 G => ∃ i : Nat, i ≤ List.length js ∧ (∀ (q : Nat) (j : J), q < i → js[q]? = some j → rightJ j = true) ∧ k' = List.length js - i ∧ F = [(0, pv (.slice A js.length c)), (1, .si (.ce (.fn (.func 71) 0 []))), (7, pv (.int .i64 (List.length js))), (8, pv (.int .i64 i))] ∧ H.Le H3 ∧ G = []) (List.length js + 1) ?_ ?_
 ·refine ⟨List.length js, by omega, _, _, [], ⟨0, by omega, fun q j hq => absurd hq (by omega), rfl, rfl, .refl _, rfl⟩, ?_⟩
  exact ⟨rfl, trivial, rfl, rfl, rfl, rfl, trivial⟩
 rintro k' F H3 G hle3 ⟨i, hi, hrt, rfl, rfl, hle4, rfl⟩
 refine codeL.go tab ?_
 (conv => whnf)
 refine br.of (fun h7 => ?_) (fun h7 => ?_) <;> (conv => whnf)
 ·have h7 := of_decide_eq_true h7
  have hil : i < (List.length js) := by omega
  have hget : js[i]? = some (js[i]'hil) := List.getElem?_eq_getElem _
  generalize js[i]'hil = j0 at hget
  obtain ⟨cs, hj0, hcs⟩ := hx1.get hget
  obtain ⟨A2, n2, c2, B2, m2, d2, rfl⟩ := hj0.cells
  have hlen0 : xs.length ≠ 0 := by rw [hx1.length]; omega
  refine ⟨⟨by omega, by omega⟩, hv1.addr2 hlen0, ?_⟩
  (conv => whnf)
  refine ⟨_, rfl, ((hv1.mono (hle4))).cells2 hlen0 hcs (by show (i : Int).toNat * 5 = _; omega), ?_⟩
  (conv => whnf)
  refine ⟨⟨_, Tryz.func71, rfl, by kernel_rfl⟩, CallS.use (right1 j0 (hjs i j0 hget) j0.kind j0.yes j0.text A2 n2 c2 B2 m2 d2 H3 (hj0.mono hle4)) [] rfl rfl trivial ?_⟩
  rintro e H4 G' hle5 ⟨rfl, hle6, rfl⟩
  cases hrj : rightJ j0
  all_goals (conv => whnf)
  ·refine ⟨⟨_, fun hall => ?_, fun _ => ?_, rfl⟩, hle4.trans hle6, rfl⟩
   ·rw [rightJs_of_get hget hrj] at hall; cases hall
   ·omega
  rw [wrap64 (x := (i : Int) + 1) (by omega) (by omega)]
  refine ⟨List.length js - (i + 1), by omega, _, _, [], ⟨i + 1, by omega, fun q j hq hqj => ?_, rfl, rfl, hle4.trans hle6, rfl⟩, ?_⟩
  ·rcases Nat.lt_or_ge q i with hqi | hqi
   ·exact hrt q j hqi hqj
   ·obtain rfl : q = i := by omega
    rw [hget] at hqj
    injection hqj with hqj
    rw [← hqj]; exact hrj
  ·exact ⟨rfl, trivial, rfl, rfl, rfl, rfl, trivial⟩
 have h7 := of_decide_eq_false h7
 obtain rfl : i = List.length js := by omega
 have hall : rightJs js = true := rightJs_all fun q j hq => hrt q j (List.getElem?_eq_some_iff.1 hq).1 hq
 exact ⟨⟨_, fun _ => rfl, fun h => (by rw [hall] at h; cases h), rfl⟩, hle4, rfl⟩
theorem contains_ (js : List J) (hl : js.length ≤ 1000000) (hjs : ∀ (i : Nat) (j : J), js[i]? = some j → RtSays j) (A : Option Addr) (xs : List Value) (c : Nat) (H : Hp) (hx1 : JsAt H js xs) (hv1 : RdV H A xs) :
  CallO Tryz.prog 70 [pv (.slice A js.length c), .si (.ce (.fn (.func 71) 0 []))] H [] fun e H' G' => e = .ret (pv (.bool (!rightJs js))) ∧ H.Le H' ∧ G' = [] := by
 refine CallO.of_body tab Tryz.func70 rfl (nt := Tryz.f70.ntmps) rfl (by kernel_rfl) ?_
 (conv => whnf)
 refine ⟨⟨_, Tryz.func104, rfl, by kernel_rfl⟩, CallS.use (index_ js hl hjs A xs c H hx1 hv1) [] rfl rfl trivial ?_⟩
 rintro e H4 G' hle5 ⟨⟨i, h1, h2, rfl⟩, hle6, rfl⟩
 (conv => whnf)
 refine ⟨congrArg (fun b => SE.ret (pv (.bool b))) ?_, hle6, rfl⟩
 cases hr : rightJs js
 ·have := h2 hr
  exact decide_eq_true this
 ·rw [h1 hr]; rfl
theorem right0 (k : Int) (y : Bool) (t : ByteArray) (js : List J) (ms : List (ByteArray × J)) (hsm : smJ (.mk k y t js ms)) (hjs : ∀ (i : Nat) (j : J), js[i]? = some j → RtSays j) (hms : ∀ (i : Nat) (s : ByteArray) (j : J), ms[i]? = some (s, j) → RtSays j) : RtSays (.mk k y t js ms) := by
 intro k' y' t' A n c B m d H hj
 obtain ⟨rfl, rfl, rfl⟩ : k' = k ∧ y' = y ∧ t' = t := by cases hj; exact ⟨rfl, rfl, rfl⟩
 have hj0 := hj
 cases hj with
 | mk hn1 hx1 hv1 hn2 hx2 hv2 =>
 rename_i xs zs
 refine CallO.of_body tab Tryz.func37 rfl (nt := Tryz.f37.ntmps) rfl (by kernel_rfl) ?_
 (conv => whnf)
 refine ⟨⟨_, Tryz.func68, rfl, by kernel_rfl⟩, CallS.use (bare_ _ k' y' t' A n c B m d H hj0) [] rfl rfl trivial ?_⟩
 rintro e H5 G' hle6 ⟨rfl, rfl, rfl⟩
 have hrj : rightJ (.mk k' y' t' js ms) = (bareJ (.mk k' y' t' js ms) && (if k' = 1 then true else if k' = 2 then true else if k' = 3 then numericP t' else if k' = 4 then toldP t' else if k' = 5 then rightJs js else if k' = 6 then rightMs ms && noTwice (ms.map (·.1)) else false)) := by rw [rightJ]
 rw [hrj]
 simp only [smJ] at hsm
 obtain ⟨hts, hjl, hml, hsj, hsmm⟩ := hsm
 cases hb : bareJ (.mk k' y' t' js ms)
 all_goals (conv => whnf)
 ·exact ⟨rfl, .refl _, rfl⟩
 have leaf : ∀ (b : Bool) (e : SE) (H' : Hp) (G' : List SB), (if k' = 1 then true else if k' = 2 then true else if k' = 3 then numericP t' else if k' = 4 then toldP t' else if k' = 5 then rightJs js else if k' = 6 then rightMs ms && noTwice (ms.map (·.1)) else false) = b → e = .ret (pv (.bool b)) → H5.Le H' → G' = [] → e = .ret (pv (.bool (true && (if k' = 1 then true else if k' = 2 then true else if k' = 3 then numericP t' else if k' = 4 then toldP t' else if k' = 5 then rightJs js else if k' = 6 then rightMs ms && noTwice (ms.map (·.1)) else false)))) ∧ H5.Le H' ∧ G' = [] := by
  intro b e H' G' h1 h2 h3 h4
  rw [h1, Bool.true_and]
  exact ⟨h2, h3, h4⟩
 refine br.of (fun h1 => ?_) (fun h1 => ?_) <;> (conv => whnf)
 ·refine br.of (fun _ => ?_) (fun h => absurd (h1.symm.trans h) (by decide))
  simp only [beq_iff_eq] at h1
  (conv => whnf)
  exact leaf true _ _ _ (by rw [if_pos h1]) rfl (.refl _) rfl
 simp only [beq_eq_false_iff_ne, ne_eq] at h1
 refine br.of (fun h2 => ?_) (fun h2 => ?_) <;> (conv => whnf)
 ·simp only [beq_iff_eq] at h2
  exact leaf true _ _ _ (by rw [if_neg h1, if_pos h2]) rfl (.refl _) rfl
 simp only [beq_eq_false_iff_ne, ne_eq] at h2
 refine br.of (fun h3 => ?_) (fun h3 => ?_) <;> (conv => whnf)
 ·simp only [beq_iff_eq] at h3
  refine ⟨⟨_, Tryz.func69, rfl, by kernel_rfl⟩, CallS.use (numeric_ t' hts H5) [] rfl rfl trivial ?_⟩
  rintro e H6 G' hle7 ⟨rfl, rfl⟩
  (conv => whnf)
  exact leaf _ _ _ _ (by rw [if_neg h1, if_neg h2, if_pos h3]) rfl hle7 rfl
 simp only [beq_eq_false_iff_ne, ne_eq] at h3
 refine br.of (fun h4 => ?_) (fun h4 => ?_) <;> (conv => whnf)
 ·simp only [beq_iff_eq] at h4
  refine ⟨⟨_, Tryz.func62, rfl, by kernel_rfl⟩, CallS.use (told_ t' (by omega) H5) [] rfl rfl trivial ?_⟩
  rintro e H6 G' hle7 ⟨rfl, rfl⟩
  (conv => whnf)
  exact leaf _ _ _ _ (by rw [if_neg h1, if_neg h2, if_neg h3, if_pos h4]) rfl hle7 rfl
 simp only [beq_eq_false_iff_ne, ne_eq] at h4
 refine br.of (fun h5 => ?_) (fun h5 => ?_) <;> (conv => whnf)
 ·simp only [beq_iff_eq] at h5
  subst hn1
  refine ⟨⟨_, Tryz.func70, rfl, by kernel_rfl⟩, CallS.use (contains_ js hjl hjs A xs c H5 hx1 hv1) [] rfl rfl trivial ?_⟩
  rintro e H6 G' hle7 ⟨rfl, hle8, rfl⟩
  (conv => whnf)
  exact leaf _ _ _ _ (by rw [if_neg h1, if_neg h2, if_neg h3, if_neg h4, if_pos h5]) (by rw [Bool.not_not]; rfl) hle8 rfl
 simp only [beq_eq_false_iff_ne, ne_eq] at h5
 refine br.of (fun h6 => ?_) (fun h6 => ?_) <;> (conv => whnf)
 ·simp only [beq_iff_eq] at h6
  refine ⟨⟨_, Tryz.func72, rfl, by kernel_rfl⟩, CallS.use (named_ k' y' t' js ms hsmm hml hms A n c B m d H5 hj0) [] rfl rfl trivial ?_⟩
  rintro e H6 G' hle7 ⟨rfl, hle8, rfl⟩
  (conv => whnf)
  exact leaf _ _ _ _ (by rw [if_neg h1, if_neg h2, if_neg h3, if_neg h4, if_neg h5, if_pos h6]) rfl hle8 rfl
 simp only [beq_eq_false_iff_ne, ne_eq] at h6
 exact leaf _ _ _ _ (by rw [if_neg h1, if_neg h2, if_neg h3, if_neg h4, if_neg h5, if_neg h6]) rfl (.refl _) rfl
theorem right_ : ∀ (N : Nat) (j : J), SizeOf.sizeOf j < N → smJ j → RtSays j
 | 0, j, h, _ => by omega
 | N + 1, .mk k y t js ms, h, hsm => by
  have hs := hsm
  simp only [smJ] at hs
  refine right0 k y t js ms hsm (fun i j hi => right_ N j ?_ (smJs_get hs.2.2.2.1 hi)) (fun i s j hi => right_ N j ?_ (smMs_get hs.2.2.2.2 hi).2)
  ·have := List.sizeOf_lt_of_mem (List.mem_of_getElem? hi)
   simp only [J.mk.sizeOf_spec] at h
   omega
  ·have := List.sizeOf_lt_of_mem (List.mem_of_getElem? hi)
   simp only [J.mk.sizeOf_spec] at h
   simp only [Prod.mk.sizeOf_spec] at this
   omega
def printP (j : J) : ByteArray × Int := if rightJ j then (⟨(wrJ j).toArray⟩, 0) else (⟨#[]⟩, 10)
theorem print_ (j : J) (hsm : smJ j) (hlen : 6 * (wrJ j).length ≤ 8000000) (k : Int) (y : Bool) (t : ByteArray) (A : Option Addr) (n c : Nat) (B : Option Addr) (m d : Nat) (H : Hp) (hj : JAt H j [.int .i64 k, .bool y, .string t, .slice A n c, .slice B m d]) :
  CallO Tryz.prog 13 [agJ k y t A n c B m d] H [] fun e H' G' => e = .ret (.tu [.ce (.val (.string (printP j).1)), .ce (.val (.int .i64 (printP j).2))]) ∧ H.Le H' ∧ G' = [] := by
 refine CallO.of_body tab Tryz.func13 rfl (nt := Tryz.f13.ntmps) rfl (by kernel_rfl) ?_
 (conv => whnf)
 refine ⟨⟨_, Tryz.func37, rfl, by kernel_rfl⟩, CallS.use (right_ _ j (Nat.lt_succ_self _) hsm k y t A n c B m d H hj) [] rfl rfl trivial ?_⟩
 rintro e H5 G' hle6 ⟨rfl, hle7, rfl⟩
 unfold printP
 cases hr : rightJ j
 all_goals (conv => whnf)
 ·exact ⟨rfl, hle7, rfl⟩
 refine ⟨⟨_, Tryz.func38, rfl, by kernel_rfl⟩, CallS.nilIn 1 1 5 1 rfl rfl (CallS.use ((Wr.write_ _ j (Nat.lt_succ_self _) hr).use false [] (by simpa using hlen) (hj.mono hle7)) [1, 2] rfl rfl ⟨rfl, rfl, trivial⟩ ?_)⟩
 rintro e H6 G' hle8 ⟨rfl, hle9, rfl⟩
 (conv => whnf)
 refine ⟨⟨_, Tryz.func39, rfl, by kernel_rfl⟩, CallS.use (string_ true ([] ++ wrJ j) (by simp only [List.nil_append]; omega) H6) [1, 3] rfl rfl ⟨rfl, rfl, trivial⟩ ?_⟩
 rintro e H7 G' hle10 ⟨rfl, rfl, hG⟩
 rcases hG with rfl | rfl
 all_goals
  (conv => whnf)
  exact ⟨rfl, hle7.trans hle9, rfl⟩
end Go.Kx.Rt
namespace Go.Proofs
open Go.Shelf
def Tryz.laysItoa_ren : Go.Shelf.Ren := ⟨fun | 171 => 49 | 243 => 81 | 246 => 112 | 283 => 151 | 284 => 152 | 285 => 153 | 286 => 154 | 129 => 187 | 317 => 192 | 318 => 193 | 319 => 194 | 320 => 195 | 337 => 218 | 338 => 219 | n => n, fun | 3 => 3 | 9 => 9 | 2 => 2 | 4 => 4 | 171 => 183 | 0 => 0 | 53 => 177 | 37 => 55 | 5 => 5 | 173 => 186 | 212 => 229 | 51 => 189 | 20 => 20 | 213 => 230 | 46 => 147 | 232 => 261 | 233 => 262 | n => n, fun | 17 => 5 | 18 => 6 | 19 => 7 | n => n⟩
theorem Tryz.laysItoa : Go.Proofs.LaysM.n171 Tryz.prog Tryz.laysItoa_ren where
 mixed := by kernel_rfl
 f129 := Tryz.func187.trans (congrArg some (by kernel_rfl))
 f171 := Tryz.func49.trans (congrArg some (by kernel_rfl))
 f243 := Tryz.func81.trans (congrArg some (by kernel_rfl))
 f246 := Tryz.func112.trans (congrArg some (by kernel_rfl))
 f283 := Tryz.func151.trans (congrArg some (by kernel_rfl))
 f284 := Tryz.func152.trans (congrArg some (by kernel_rfl))
 f285 := Tryz.func153.trans (congrArg some (by kernel_rfl))
 f286 := Tryz.func154.trans (congrArg some (by kernel_rfl))
 f317 := Tryz.func192.trans (congrArg some (by kernel_rfl))
 f318 := Tryz.func193.trans (congrArg some (by kernel_rfl))
 f319 := Tryz.func194.trans (congrArg some (by kernel_rfl))
 f320 := Tryz.func195.trans (congrArg some (by kernel_rfl))
 f337 := Tryz.func218.trans (congrArg some (by kernel_rfl))
 f338 := Tryz.func219.trans (congrArg some (by kernel_rfl))
 t0 := Tryz.underlying0
 a0 := Tryz.isAgg0
 z0 := Tryz.sizeOf0
 v0 := Tryz.zeroValue0
 t2 := Tryz.underlying2
 a2 := Tryz.isAgg2
 z2 := Tryz.sizeOf2
 v2 := Tryz.zeroValue2
 t3 := Tryz.underlying3
 a3 := Tryz.isAgg3
 z3 := Tryz.sizeOf3
 v3 := Tryz.zeroValue3
 t4 := Tryz.underlying4
 a4 := Tryz.isAgg4
 z4 := Tryz.sizeOf4
 v4 := Tryz.zeroValue4
 t5 := Tryz.underlying5
 a5 := Tryz.isAgg5
 z5 := Tryz.sizeOf5
 v5 := Tryz.zeroValue5
 t9 := Tryz.underlying9
 a9 := Tryz.isAgg9
 z9 := Tryz.sizeOf9
 v9 := Tryz.zeroValue9
 t20 := Tryz.underlying20
 a20 := Tryz.isAgg20
 z20 := Tryz.sizeOf20
 v20 := Tryz.zeroValue20
 t37 := Tryz.underlying55
 a37 := Tryz.isAgg55
 z37 := Tryz.sizeOf55
 v37 := Tryz.zeroValue55
 t46 := Tryz.underlying147
 a46 := Tryz.isAgg147
 z46 := Tryz.sizeOf147
 v46 := Tryz.zeroValue147
 t51 := Tryz.underlying189
 a51 := Tryz.isAgg189
 z51 := Tryz.sizeOf189
 v51 := Tryz.zeroValue189
 t53 := Tryz.underlying177
 a53 := Tryz.isAgg177
 z53 := Tryz.sizeOf177
 v53 := Tryz.zeroValue177
 t171 := Tryz.underlying183
 a171 := Tryz.isAgg183
 z171 := Tryz.sizeOf183
 v171 := Tryz.zeroValue183
 t173 := Tryz.underlying186
 a173 := Tryz.isAgg186
 z173 := Tryz.sizeOf186
 v173 := Tryz.zeroValue186
 t212 := Tryz.underlying229
 a212 := Tryz.isAgg229
 z212 := Tryz.sizeOf229
 v212 := Tryz.zeroValue229
 t213 := Tryz.underlying230
 a213 := Tryz.isAgg230
 z213 := Tryz.sizeOf230
 t232 := Tryz.underlying261
 a232 := Tryz.isAgg261
 z232 := Tryz.sizeOf261
 v232 := Tryz.zeroValue261
 t233 := Tryz.underlying262
 a233 := Tryz.isAgg262
 z233 := Tryz.sizeOf262
 v233 := Tryz.zeroValue262
 g17 := by kernel_rfl
 g18 := by kernel_rfl
 g19 := by kernel_rfl
 i0 := by kernel_rfl
 i2 := by kernel_rfl
 i3 := by kernel_rfl
 i4 := by kernel_rfl
 i5 := by kernel_rfl
 i9 := by kernel_rfl
 i20 := by kernel_rfl
 i37 := by kernel_rfl
 i46 := by kernel_rfl
 i51 := by kernel_rfl
 i53 := by kernel_rfl
 i171 := by kernel_rfl
 i173 := by kernel_rfl
 i212 := by kernel_rfl
 i232 := by kernel_rfl
 i233 := by kernel_rfl
 m17 := by kernel_rfl
 m18 := by kernel_rfl
 m19 := by kernel_rfl

end Go.Proofs
namespace Go.Kx.Lb
open Go.Proofs Go.Kx Go.RowKit
set_option maxRecDepth 20000

def itoaB (n : Int) : ByteArray := ⟨(Lib.itoa n).toArray⟩
theorem tabIs {w : World} (h : GlW w) : Lib.TabIs Tryz.prog w "internal/strconv.uint64pow10" .u64 Lib.pow10Tab := by
 obtain ⟨t, z, h1⟩ := h 5 pow10Cells.toArray rfl
 have hg : Tryz.prog.globalNamed "internal/strconv.uint64pow10" = some 5 := Tryz.laysItoa.m17
 unfold Lib.TabIs World.var?
 rw [hg]
 simp only [Option.bind_some, h1]
 rfl
theorem itoa (n : Int) (h0 : -9223372036854775808 ≤ n) (h1 : n ≤ 9223372036854775807) (H : Hp) (G : List SB) : CallO Tryz.prog 49 [pv (.int .i64 n)] H G fun e H' G' => e = .ret (pv (.string (itoaB n))) ∧ H' = H ∧ G' = G := by
 refine (CallO.of_calls (args := [.int .i64 n]) (R := fun v => v = .string (itoaB n)) fun w hg _ => ?_).mono ?_
 ·refine (Any.strconv_Itoa Tryz.laysItoa n h0 h1 w (tabIs hg)).mono fun e w' ⟨he, k, os, hw⟩ => ⟨_, he, rfl, ?_⟩
  subst hw
  exact ⟨rfl, rfl, rfl, by simp [«Sort».grow, World.drewN], fun j hj _ => by simp [«Sort».grow, World.drewN, Array.getElem?_append_left hj]⟩
 ·rintro e H' G' hle ⟨v, rfl, rfl, rfl, rfl⟩
  exact ⟨rfl, rfl, rfl⟩
theorem decDigits_big {u : Nat} (h : ¬ u < 10) : Lib.decDigits u = Lib.decDigits (u / 10) ++ [UInt8.ofNat (48 + u % 10)] := by rw [Lib.decDigits, dif_neg h]
theorem parse_snoc (c : UInt8) (d : Nat) (hc : c.toNat = 48 + d) (hd : d < 10) : ∀ (l : List UInt8) (acc v : Nat), Lib.parseUint10 acc l = .ok v → v < 922337203685477580 → Lib.parseUint10 acc (l ++ [c]) = .ok (v * 10 + d)
 | [], acc, v, h, hv => by
  simp only [Lib.parseUint10] at h
  injection h with h
  subst h
  simp only [List.nil_append, Lib.parseUint10]
  rw [if_pos (by omega), if_neg (by omega), if_neg (by omega), hc]
  congr 1; omega
 | b :: r, acc, v, h, hv => by
  simp only [List.cons_append, Lib.parseUint10] at h ⊢
  split at h
  ·rename_i h1
   rw [if_pos h1]
   split at h
   ·cases h
   ·rename_i h2
    rw [if_neg h2]
    split at h
    ·cases h
    ·rename_i h3
     rw [if_neg h3]
     exact parse_snoc c d hc hd r _ v h hv
  ·cases h
theorem parse_dec (u : Nat) (hu : u < 9000000000000000000) : Lib.parseUint10 0 (Lib.decDigits u) = .ok u := by
 induction u using Nat.strongRecOn with
 | _ u ih =>
  by_cases h : u < 10
  ·rw [Lib.decDigits_one h]
   have := parse_snoc (UInt8.ofNat (48 + u)) u (by rw [UInt8.toNat_ofNat']; omega) h [] 0 0 rfl (by omega)
   simpa using this
  ·rw [decDigits_big h]
   have := parse_snoc (UInt8.ofNat (48 + u % 10)) (u % 10) (by rw [UInt8.toNat_ofNat']; omega) (by omega) _ 0 (u / 10) (ih (u / 10) (by omega) (by omega)) (by omega)
   rw [this]
   congr 1; omega
theorem decDigits_ne (u : Nat) : Lib.decDigits u ≠ [] := by
 by_cases h : u < 10
 ·rw [Lib.decDigits_one h]; simp
 ·rw [decDigits_big h]; simp
theorem decDigits_head (u : Nat) : ∃ c r, Lib.decDigits u = c :: r ∧ 48 ≤ c.toNat ∧ c.toNat ≤ 57 := by
 induction u using Nat.strongRecOn with
 | _ u ih =>
  by_cases h : u < 10
  ·exact ⟨_, [], Lib.decDigits_one h, by rw [UInt8.toNat_ofNat']; omega, by rw [UInt8.toNat_ofNat']; omega⟩
  ·obtain ⟨c, r, h1, h2, h3⟩ := ih (u / 10) (by omega)
   exact ⟨c, _, by rw [decDigits_big h, h1]; rfl, h2, h3⟩
theorem atoi_dec (u : Nat) (hu : u < 9000000000000000000) : Lib.atoiAll (Lib.decDigits u) = .ok (u : Int) := by
 have hp := parse_dec u hu
 obtain ⟨c, r, h1, h2, h3⟩ := decDigits_head u
 rw [h1] at hp ⊢
 unfold Lib.atoiAll
 simp only [if_neg (show ¬ (c.toNat = 43 ∨ c.toNat = 45) by omega)]
 unfold Lib.parseMag
 rw [if_neg (by simp), hp]
 simp only [show ¬ (c.toNat = 45) by omega]
 rw [if_neg (by omega), if_neg (by simp), if_neg (by simp)]
end Go.Kx.Lb
namespace Go.Kx.Ob
open Go.Proofs Go.Kx Go.RowKit Go.Kx.Js Go.Kx.Pr Go.Kx.Rt
set_option maxRecDepth 20000
set_option linter.unusedSimpArgs false
def T : Tab := [(34, { k := TK.st [(0, 3, 1), (1, 4, 1), (2, 9, 1), (3, 31, 1), (4, 32, 1)], agg := true, size := 5, bytes := 80, zero := [Z.i IntKind.i64, Z.b, Z.s, Z.sl, Z.sl] }), (52, { k := TK.st [(0, 9, 1), (1, 34, 5)], agg := true, size := 6, bytes := 96, zero := [Z.s, Z.i IntKind.i64, Z.b, Z.s, Z.sl, Z.sl] }), (9, { k := TK.string, agg := false, size := 1, bytes := 16, zero := [Z.s] }), (4, { k := TK.bool, agg := false, size := 1, bytes := 1, zero := [Z.b] }), (35, { k := TK.int IntKind.i64, agg := false, size := 1, bytes := 8, zero := [Z.i IntKind.i64] }), (32, { k := TK.slice 52, agg := false, size := 1, bytes := 24, zero := [Z.sl] }), (3, { k := TK.int IntKind.i64, agg := false, size := 1, bytes := 8, zero := [Z.i IntKind.i64] }), (2, { k := TK.int IntKind.i64, agg := false, size := 1, bytes := 8, zero := [Z.i IntKind.i64] }), (110, { k := TK.ifc, agg := false, size := 1, bytes := 16, zero := [Z.ifc] }), (31, { k := TK.slice 34, agg := false, size := 1, bytes := 24, zero := [Z.sl] })]
set_option maxRecDepth 100000 in
theorem tab : TabOk Tryz.prog T := tabOk_mk (ts := [34, 52, 9, 4, 35, 32, 3, 2, 110, 31]) (by kernel_rfl)
theorem mixed : Tryz.prog.follows .mixedOrders = true := by kernel_rfl
def strJ (s : ByteArray) : J := .mk 4 false s [] []
def numJ (n : Int) : J := .mk 3 false (Lb.itoaB n) [] []
def objJ (ms : List (ByteArray × J)) : J := .mk 6 false ⟨#[]⟩ [] ms
theorem RdV.nil (H : Hp) : RdV H none [] := by
  exact ⟨fun _ => rfl, fun a e => (nomatch e)⟩
theorem ones_J {H : Hp} {j : J} {cs : List Value} (h : JAt H j cs) : ∀ u ∈ cs, u.oneCell' = true := by
  obtain ⟨A, n, c, B, m, d, rfl⟩ := h.cells
  intro u hu
  simp only [List.mem_cons, List.mem_nil_iff, or_false] at hu
  rcases hu with rfl | rfl | rfl | rfl | rfl <;> rfl
theorem ones_Ms {H : Hp} : ∀ {ms : List (ByteArray × J)} {zs : List Value}, MsAt H ms zs → ∀ u ∈ zs, u.oneCell' = true
  | _, _, .nil => fun u hu => by simp at hu
  | _, _, .cons h1 h2 => fun u hu => by
    rcases List.mem_append.1 hu with hu | hu
    · rcases List.mem_cons.1 hu with rfl | hu
      · rfl
      · exact ones_J h1 u hu
    · exact ones_Ms h2 u hu
theorem str_ (s : ByteArray) (H : Hp) : CallO Tryz.prog 31 [pv (.string s)] H [] fun e H' G' => e = .ret (agJ 4 false s none 0 0 none 0 0) ∧ H' = H ∧ G' = [] := by
  refine CallO.of_body tab Tryz.func31 rfl (nt := Tryz.f31.ntmps) rfl (by kernel_rfl) ?_
  (conv => whnf)
  exact ⟨rfl, rfl, rfl⟩
theorem num_ (n : Int) (h0 : -9223372036854775808 ≤ n) (h1 : n ≤ 9223372036854775807) (H : Hp) : CallO Tryz.prog 19 [pv (.int .i64 n)] H [] fun e H' G' => e = .ret (agJ 3 false (Lb.itoaB n) none 0 0 none 0 0) ∧ H' = H ∧ G' = [] := by
  refine CallO.of_body tab Tryz.func19 rfl (nt := Tryz.f19.ntmps) rfl (by kernel_rfl) ?_
  (conv => whnf)
  refine ⟨⟨_, Tryz.func49, rfl, by kernel_rfl⟩, CallS.use (Lb.itoa n h0 h1 H []) [] rfl rfl trivial ?_⟩
  rintro e H1 G' hle1 ⟨rfl, rfl, rfl⟩
  (conv => whnf)
  exact ⟨rfl, rfl, rfl⟩
theorem clone0 (A : Option Addr) (n c : Nat) (zs : List Value) (hz : zs.length = n * 6) (hone : ∀ u ∈ zs, u.oneCell' = true) (h0 : 0 < n) (hn : n ≤ 1000000) (H : Hp) (hv : RdV H A zs) :
    CallO Tryz.prog 48 [pv (.slice A n c)] H [] fun e _ G' => e = .ret (.si (.ce (.self 0))) ∧ G' = [.row 52 6 n zs] := by
  refine CallO.of_body tab Tryz.func48 rfl (nt := Tryz.f48.ntmps) rfl (by kernel_rfl) ?_
  (conv => whnf)
  cases A with
  | none =>
    have := hv.1 rfl
    rw [this] at hz
    simp at hz
    omega
  | some a =>
    (conv => whnf)
    refine ⟨by decide, .inl ?_⟩
    intro g H2 hle hrd
    (conv => whnf)
    refine ⟨zs, hz, (hv.2 a rfl).mono hle, hone, fun h => absurd h (by omega), fun _ => ⟨rfl, [], rfl, hrd, ?_, ?_⟩⟩
    · show (0 + n) * 97 ≤ _
      omega
    (conv => whnf)
    exact ⟨rfl, by rw [Nat.zero_add]; rfl⟩
theorem cloneNil (H : Hp) : CallO Tryz.prog 48 [pv (.slice none 0 0)] H [] fun e H' G' => e = .ret (pv (.slice none 0 0)) ∧ H' = H ∧ G' = [] := by
  refine CallO.of_body tab Tryz.func48 rfl (nt := Tryz.f48.ntmps) rfl (by kernel_rfl) ?_
  (conv => whnf)
  exact ⟨rfl, rfl, rfl⟩
theorem obj_ (ms : List (ByteArray × J)) (hml : ms.length ≤ 1000000) (A : Option Addr) (c : Nat) (zs : List Value) (H : Hp) (hm : MsAt H ms zs) (hv : RdV H A zs) (h0 : 0 < ms.length) :
    CallO Tryz.prog 18 [pv (.slice A ms.length c)] H [] fun e H' G' => (∃ B d, e = .ret (agJ 6 false ⟨#[]⟩ none 0 0 B ms.length d) ∧ JAt H' (objJ ms) [.int .i64 6, .bool false, .string ⟨#[]⟩, .slice none 0 0, .slice B ms.length d]) ∧ G' = [] := by
  have hcl : CallO Tryz.prog 48 [pv (.slice A ms.length c)] H [] fun e H' G' => (∃ B d, e = .ret (pv (.slice B ms.length d)) ∧ RdV H' B zs) ∧ G' = [] := by
    refine CallO.sub (CallO.frz (K := fun e H' G' => (∃ B d, e = .ret (pv (.slice B ms.length d)) ∧ RdV H' B zs) ∧ G' = [.dead]) (clone0 A ms.length c zs hm.length (ones_Ms hm) h0 hml H hv) ?_) ?_
    · rintro e H' G' hle ⟨rfl, rfl⟩
      refine ⟨0, 52, 6, _, _, rfl, fun hz => absurd hz (by omega), fun x H2 hle2 hfr => ?_⟩
      rcases hfr with ⟨rfl, h1, h2⟩ | ⟨g, o, cap, rfl, _, h2⟩
      · omega
      · exact ⟨⟨_, cap, rfl, fun e => (nomatch e), fun a e => by injection e with e; subst e; exact h2⟩, rfl⟩
    · rintro e H' G' hle ⟨⟨B, d, rfl, hv⟩, rfl⟩
      exact ⟨_, [], [], rfl, trivial, rfl, ⟨B, d, rfl, hv⟩, rfl⟩
  refine CallO.of_body tab Tryz.func18 rfl (nt := Tryz.f18.ntmps) rfl (by kernel_rfl) ?_
  (conv => whnf)
  refine ⟨⟨_, Tryz.func48, rfl, by kernel_rfl⟩, CallS.use hcl [] rfl rfl trivial ?_⟩
  rintro e H1 G' hle1 ⟨⟨B, d, rfl, hv1⟩, rfl⟩
  (conv => whnf)
  exact ⟨⟨B, d, rfl, .mk rfl .nil (RdV.nil _) rfl (hm.mono hle1) hv1⟩, rfl⟩
theorem objNil (H : Hp) : CallO Tryz.prog 18 [pv (.slice none 0 0)] H [] fun e H' G' => e = .ret (agJ 6 false ⟨#[]⟩ none 0 0 none 0 0) ∧ H' = H ∧ G' = [] := by
  refine CallO.of_body tab Tryz.func18 rfl (nt := Tryz.f18.ntmps) rfl (by kernel_rfl) ?_
  (conv => whnf)
  refine ⟨⟨_, Tryz.func48, rfl, by kernel_rfl⟩, CallS.use (cloneNil H) [] rfl rfl trivial ?_⟩
  rintro e H1 G' hle1 ⟨rfl, rfl, rfl⟩
  (conv => whnf)
  exact ⟨rfl, rfl, rfl⟩
def sameP (a b : J) : Bool := rightJ a && rightJ b && (wrJ a == wrJ b)
theorem same_ (a b : J) (ha : smJ a) (hb : smJ b) (hla : 6 * (wrJ a).length ≤ 8000000) (hlb : 6 * (wrJ b).length ≤ 8000000)
    (k : Int) (y : Bool) (t : ByteArray) (A : Option Addr) (n c : Nat) (B : Option Addr) (m d : Nat) (k2 : Int) (y2 : Bool) (t2 : ByteArray) (A2 : Option Addr) (n2 c2 : Nat) (B2 : Option Addr) (m2 d2 : Nat) (H : Hp)
    (hj : JAt H a [.int .i64 k, .bool y, .string t, .slice A n c, .slice B m d]) (hj2 : JAt H b [.int .i64 k2, .bool y2, .string t2, .slice A2 n2 c2, .slice B2 m2 d2]) :
    CallO Tryz.prog 17 [agJ k y t A n c B m d, agJ k2 y2 t2 A2 n2 c2 B2 m2 d2] H [] fun e H' G' => e = .ret (pv (.bool (sameP a b))) ∧ H.Le H' ∧ G' = [] := by
  refine CallO.of_body tab Tryz.func17 rfl (nt := Tryz.f17.ntmps) rfl (by kernel_rfl) ?_
  (conv => whnf)
  refine ⟨⟨_, Tryz.func13, rfl, by kernel_rfl⟩, CallS.use (print_ a ha hla k y t A n c B m d H hj) [] rfl rfl trivial ?_⟩
  rintro e H1 G' hle1 ⟨rfl, hl1, rfl⟩
  (conv => whnf)
  refine ⟨⟨_, Tryz.func13, rfl, by kernel_rfl⟩, CallS.use (print_ b hb hlb k2 y2 t2 A2 n2 c2 B2 m2 d2 H1 (hj2.mono hl1)) [] rfl rfl trivial ?_⟩
  rintro e H2 G' hle2 ⟨rfl, hl2, rfl⟩
  unfold sameP printP
  cases ra : rightJ a <;> cases rb : rightJ b
  all_goals (conv => whnf)
  all_goals refine ⟨congrArg (fun b => SE.ret (pv (.bool b))) ?_, hl1.trans hl2, rfl⟩
  all_goals first
    | rfl
    | (rw [Bool.true_and, Bool.true_and, Bool.eq_iff_iff, strEq_iff, beq_iff_eq]
       constructor
       · intro h; have := congrArg (fun b : ByteArray => b.data.toList) h; simpa using this
       · intro h; rw [h])
end Go.Kx.Ob
namespace Go.Proofs
open Go.Shelf
def Tryz.laysParse_ren : Go.Shelf.Ren := ⟨fun | 174 => 78 | 247 => 109 | 245 => 110 | 287 => 146 | 279 => 147 | 280 => 148 | 281 => 149 | 282 => 150 | 321 => 188 | 322 => 189 | 316 => 190 | 171 => 49 | 205 => 191 | 243 => 81 | 246 => 112 | 283 => 151 | 284 => 152 | 285 => 153 | 286 => 154 | 129 => 187 | 317 => 192 | 318 => 193 | 319 => 194 | 320 => 195 | 337 => 218 | 338 => 219 | n => n, fun | 9 => 9 | 3 => 3 | 2 => 2 | 75 => 110 | 85 => 118 | 4 => 4 | 167 => 176 | 5 => 5 | 53 => 177 | 175 => 178 | 46 => 147 | 168 => 180 | 37 => 55 | 0 => 0 | 210 => 226 | 21 => 21 | 127 => 117 | 145 => 253 | 143 => 251 | 171 => 183 | 173 => 186 | 212 => 229 | 51 => 189 | 20 => 20 | 213 => 230 | 232 => 261 | 233 => 262 | 80 => 42 | n => n, fun | 15 => 3 | 16 => 4 | 17 => 5 | 18 => 6 | 19 => 7 | n => n⟩
theorem Tryz.laysParse : Go.Proofs.LaysC.n174 Tryz.prog Tryz.laysParse_ren where
 mixed := by kernel_rfl
 f129 := Tryz.func187.trans (congrArg some (by kernel_rfl))
 f171 := Tryz.func49.trans (congrArg some (by kernel_rfl))
 f174 := Tryz.func78.trans (congrArg some (by kernel_rfl))
 f205 := Tryz.func191.trans (congrArg some (by kernel_rfl))
 f243 := Tryz.func81.trans (congrArg some (by kernel_rfl))
 f245 := Tryz.func110.trans (congrArg some (by kernel_rfl))
 f246 := Tryz.func112.trans (congrArg some (by kernel_rfl))
 f247 := Tryz.func109.trans (congrArg some (by kernel_rfl))
 f279 := Tryz.func147.trans (congrArg some (by kernel_rfl))
 f280 := Tryz.func148.trans (congrArg some (by kernel_rfl))
 f281 := Tryz.func149.trans (congrArg some (by kernel_rfl))
 f282 := Tryz.func150.trans (congrArg some (by kernel_rfl))
 f283 := Tryz.func151.trans (congrArg some (by kernel_rfl))
 f284 := Tryz.func152.trans (congrArg some (by kernel_rfl))
 f285 := Tryz.func153.trans (congrArg some (by kernel_rfl))
 f286 := Tryz.func154.trans (congrArg some (by kernel_rfl))
 f287 := Tryz.func146.trans (congrArg some (by kernel_rfl))
 f316 := Tryz.func190.trans (congrArg some (by kernel_rfl))
 f317 := Tryz.func192.trans (congrArg some (by kernel_rfl))
 f318 := Tryz.func193.trans (congrArg some (by kernel_rfl))
 f319 := Tryz.func194.trans (congrArg some (by kernel_rfl))
 f320 := Tryz.func195.trans (congrArg some (by kernel_rfl))
 f321 := Tryz.func188.trans (congrArg some (by kernel_rfl))
 f322 := Tryz.func189.trans (congrArg some (by kernel_rfl))
 f337 := Tryz.func218.trans (congrArg some (by kernel_rfl))
 f338 := Tryz.func219.trans (congrArg some (by kernel_rfl))
 t0 := Tryz.underlying0
 a0 := Tryz.isAgg0
 z0 := Tryz.sizeOf0
 v0 := Tryz.zeroValue0
 t2 := Tryz.underlying2
 a2 := Tryz.isAgg2
 z2 := Tryz.sizeOf2
 v2 := Tryz.zeroValue2
 t3 := Tryz.underlying3
 a3 := Tryz.isAgg3
 z3 := Tryz.sizeOf3
 v3 := Tryz.zeroValue3
 t4 := Tryz.underlying4
 a4 := Tryz.isAgg4
 z4 := Tryz.sizeOf4
 v4 := Tryz.zeroValue4
 t5 := Tryz.underlying5
 a5 := Tryz.isAgg5
 z5 := Tryz.sizeOf5
 v5 := Tryz.zeroValue5
 t9 := Tryz.underlying9
 a9 := Tryz.isAgg9
 z9 := Tryz.sizeOf9
 v9 := Tryz.zeroValue9
 t20 := Tryz.underlying20
 a20 := Tryz.isAgg20
 z20 := Tryz.sizeOf20
 v20 := Tryz.zeroValue20
 t21 := Tryz.underlying21
 a21 := Tryz.isAgg21
 z21 := Tryz.sizeOf21
 v21 := Tryz.zeroValue21
 t37 := Tryz.underlying55
 a37 := Tryz.isAgg55
 z37 := Tryz.sizeOf55
 v37 := Tryz.zeroValue55
 t46 := Tryz.underlying147
 a46 := Tryz.isAgg147
 z46 := Tryz.sizeOf147
 v46 := Tryz.zeroValue147
 t51 := Tryz.underlying189
 a51 := Tryz.isAgg189
 z51 := Tryz.sizeOf189
 v51 := Tryz.zeroValue189
 t53 := Tryz.underlying177
 a53 := Tryz.isAgg177
 z53 := Tryz.sizeOf177
 v53 := Tryz.zeroValue177
 t75 := Tryz.underlying110
 a75 := Tryz.isAgg110
 z75 := Tryz.sizeOf110
 v75 := Tryz.zeroValue110
 t85 := Tryz.underlying118
 a85 := Tryz.isAgg118
 z85 := Tryz.sizeOf118
 v85 := Tryz.zeroValue118
 t127 := Tryz.underlying117
 a127 := Tryz.isAgg117
 z127 := Tryz.sizeOf117
 v127 := Tryz.zeroValue117
 t143 := Tryz.underlying251
 a143 := Tryz.isAgg251
 z143 := Tryz.sizeOf251
 v143 := Tryz.zeroValue251
 t145 := Tryz.underlying253
 a145 := Tryz.isAgg253
 z145 := Tryz.sizeOf253
 v145 := Tryz.zeroValue253
 t167 := Tryz.underlying176
 a167 := Tryz.isAgg176
 z167 := Tryz.sizeOf176
 v167 := Tryz.zeroValue176
 t168 := Tryz.underlying180
 a168 := Tryz.isAgg180
 z168 := Tryz.sizeOf180
 v168 := Tryz.zeroValue180
 t171 := Tryz.underlying183
 a171 := Tryz.isAgg183
 z171 := Tryz.sizeOf183
 v171 := Tryz.zeroValue183
 t173 := Tryz.underlying186
 a173 := Tryz.isAgg186
 z173 := Tryz.sizeOf186
 v173 := Tryz.zeroValue186
 t175 := Tryz.underlying178
 a175 := Tryz.isAgg178
 z175 := Tryz.sizeOf178
 v175 := Tryz.zeroValue178
 t210 := Tryz.underlying226
 a210 := Tryz.isAgg226
 z210 := Tryz.sizeOf226
 v210 := Tryz.zeroValue226
 t212 := Tryz.underlying229
 a212 := Tryz.isAgg229
 z212 := Tryz.sizeOf229
 v212 := Tryz.zeroValue229
 t213 := Tryz.underlying230
 a213 := Tryz.isAgg230
 z213 := Tryz.sizeOf230
 t232 := Tryz.underlying261
 a232 := Tryz.isAgg261
 z232 := Tryz.sizeOf261
 v232 := Tryz.zeroValue261
 t233 := Tryz.underlying262
 a233 := Tryz.isAgg262
 z233 := Tryz.sizeOf262
 v233 := Tryz.zeroValue262
 g15 := by kernel_rfl
 g16 := by kernel_rfl
 g17 := by kernel_rfl
 g18 := by kernel_rfl
 g19 := by kernel_rfl
 t80 := Tryz.underlying42
 a80 := Tryz.isAgg42
 z80 := Tryz.sizeOf42
 v80 := Tryz.zeroValue42
 i0 := by kernel_rfl
 i2 := by kernel_rfl
 i3 := by kernel_rfl
 i4 := by kernel_rfl
 i5 := by kernel_rfl
 i9 := by kernel_rfl
 i20 := by kernel_rfl
 i21 := by kernel_rfl
 i37 := by kernel_rfl
 i46 := by kernel_rfl
 i51 := by kernel_rfl
 i53 := by kernel_rfl
 i75 := by kernel_rfl
 i80 := by kernel_rfl
 i85 := by kernel_rfl
 i127 := by kernel_rfl
 i143 := by kernel_rfl
 i145 := by kernel_rfl
 i167 := by kernel_rfl
 i168 := by kernel_rfl
 i171 := by kernel_rfl
 i173 := by kernel_rfl
 i175 := by kernel_rfl
 i210 := by kernel_rfl
 i212 := by kernel_rfl
 i232 := by kernel_rfl
 i233 := by kernel_rfl
 m15 := by kernel_rfl
 m16 := by kernel_rfl
 m17 := by kernel_rfl
 m18 := by kernel_rfl
 m19 := by kernel_rfl
 c0 := by kernel_rfl
 c2 := by kernel_rfl
 c3 := by kernel_rfl
 c4 := by kernel_rfl
 c5 := by kernel_rfl
 c9 := by kernel_rfl
 c20 := by kernel_rfl
 c21 := by kernel_rfl
 c37 := by kernel_rfl
 c46 := by kernel_rfl
 c51 := by kernel_rfl
 c53 := by kernel_rfl
 c75 := by kernel_rfl
 c80 := by kernel_rfl
 c85 := by kernel_rfl
 c127 := by kernel_rfl
 c143 := by kernel_rfl
 c145 := by kernel_rfl
 c167 := by kernel_rfl
 c168 := by kernel_rfl
 c171 := by kernel_rfl
 c173 := by kernel_rfl
 c175 := by kernel_rfl
 c210 := by kernel_rfl
 c212 := by kernel_rfl
 c213 := by kernel_rfl
 c232 := by kernel_rfl
 c233 := by kernel_rfl

end Go.Proofs
namespace Go.Kx.Ob
open Go.Proofs Go.Kx Go.RowKit Go.Kx.Js Go.Kx.Pr Go.Kx.Rt
set_option maxRecDepth 20000
set_option linter.unusedSimpArgs false
def ErrH (H : Hp) : Prop := ∀ g, (g = 3 ∨ g = 4) → ∃ te pe, H g 0 = some (.iface te pe)
theorem ErrH.mono {H H' : Hp} (h : H.Le H') (he : ErrH H) : ErrH H' := fun g hg => let ⟨te, pe, e⟩ := he g hg; ⟨te, pe, h _ _ _ e⟩
theorem parseInt (s : ByteArray) (hs : s.size ≤ 1000000) (H : Hp) (hv : ErrH H) :
  CallO Tryz.prog 78 [pv (.string s), pv (.int .i64 10), pv (.int .i64 64)] H [] fun e H' G' => (∃ (v : Int) (x : Value), e = .ret (.tu [.ce (.val (.int .i64 v)), .ce (.val x)]) ∧ ((Lib.atoiAll s.data.toList = .ok v ∧ x = .nilIface) ∨ ((∀ u, Lib.atoiAll s.data.toList ≠ .ok u) ∧ ∃ te pe, x = .iface te pe))) ∧ H' = H ∧ G' = [] := by
 refine (CallO.of_calls (args := [.string s, .int .i64 10, .int .i64 64]) (R := fun y => ∃ (v : Int) (x : Value), y = .tuple #[.int .i64 v, x] ∧ ((Lib.atoiAll s.data.toList = .ok v ∧ x = .nilIface) ∨ ((∀ u, Lib.atoiAll s.data.toList ≠ .ok u) ∧ ∃ te pe, x = .iface te pe))) fun w hg hin => ?_).mono ?_
 ·have ht := Lib.parseIntB_64 s.data.toList
  cases h : Lib.atoiAll s.data.toList
  ·rename_i v
   refine (Any.strconv_ParseInt_10_at64_ok Tryz.laysParse s (by omega) v (ht.trans h) w).mono fun e w' ⟨he, hw⟩ => ⟨_, he, ⟨v, _, rfl, .inl ⟨rfl, rfl⟩⟩, ?_⟩
   rcases hw with rfl | ⟨t, rfl⟩
   ·exact grown_refl _
   ·exact ⟨rfl, rfl, rfl, by rw [Lib.bytesWorld_size]; omega, fun j hj _ => Lib.bytesWorld_at_old w _ t j hj⟩
  ·obtain ⟨te, pe, he⟩ := hv 3 (.inl rfl)
   refine (Any.strconv_ParseInt_10_at64_syntax Tryz.laysParse s (by omega) (ht.trans h) _ w (hin _ _ _ he) (.inr ⟨te, pe, rfl⟩)).mono fun e w' ⟨N, he, _, _, hb⟩ => ⟨_, he, ⟨_, _, rfl, .inr ⟨fun u e => (nomatch e), _, _, rfl⟩⟩, grown_of_below hb⟩
  ·obtain ⟨te, pe, he⟩ := hv 4 (.inr rfl)
   refine (Any.strconv_ParseInt_10_at64_range Tryz.laysParse s (by omega) (ht.trans h) _ w (hin _ _ _ he) (.inr ⟨te, pe, rfl⟩)).mono fun e w' ⟨N, he, _, _, hb⟩ => ⟨_, he, ⟨_, _, rfl, .inr ⟨fun u e => (nomatch e), _, _, rfl⟩⟩, grown_of_below hb⟩
 ·rintro e H' G' hle ⟨y, ⟨v, x, rfl, h⟩, rfl, rfl, rfl⟩
  exact ⟨⟨v, x, rfl, h⟩, rfl, rfl⟩
def intP (j : J) : Int × Bool :=
 if j.kind = 3 ∧ numericP j.text = true then
  match Lib.atoiAll j.text.data.toList with
  | .ok v => if v < -9007199254740992 ∨ v > 9007199254740992 then (0, false) else (v, true)
  | _ => (0, false)
 else (0, false)
theorem int_ (j : J) (hs : j.text.size ≤ 190000) (k : Int) (y : Bool) (t : ByteArray) (A : Option Addr) (n c : Nat) (B : Option Addr) (m d : Nat) (H : Hp) (hE : ErrH H) (hj : JAt H j [.int .i64 k, .bool y, .string t, .slice A n c, .slice B m d]) :
  CallO Tryz.prog 42 [agJ k y t A n c B m d] H [] fun e H' G' => e = .ret (.tu [.ce (.val (.int .i64 (intP j).1)), .ce (.val (.bool (intP j).2))]) ∧ H.Le H' ∧ G' = [] := by
 obtain ⟨rfl, rfl, rfl⟩ : k = j.kind ∧ y = j.yes ∧ t = j.text := by cases hj; exact ⟨rfl, rfl, rfl⟩
 unfold intP
 refine CallO.of_body tab Tryz.func42 rfl (nt := Tryz.f42.ntmps) rfl (by kernel_rfl) ?_
 (conv => whnf)
 refine br.of (fun h1 => ?_) (fun h1 => ?_) <;> (conv => whnf)
 ·simp only [bne_iff_ne, ne_eq] at h1
  rw [if_neg (fun h => h1 h.1)]
  exact ⟨rfl, .refl _, rfl⟩
 simp only [bne_eq_false_iff_eq] at h1
 refine ⟨⟨_, Tryz.func69, rfl, by kernel_rfl⟩, CallS.use (numeric_ j.text hs H) [] rfl rfl trivial ?_⟩
 rintro e H2 G' hle ⟨rfl, rfl⟩
 cases hn : numericP j.text
 all_goals (conv => whnf)
 ·rw [if_neg (by simp)]
  exact ⟨rfl, hle, rfl⟩
 rw [if_pos ⟨h1, rfl⟩]
 refine ⟨⟨_, Tryz.func78, rfl, by kernel_rfl⟩, CallS.use (parseInt j.text (by omega) H2 (hE.mono hle)) [] rfl rfl trivial ?_⟩
 rintro e H3 G' hle2 ⟨⟨v, x, rfl, hx⟩, rfl, rfl⟩
 rcases hx with ⟨hv, rfl⟩ | ⟨hv, te, pe, rfl⟩
 all_goals (conv => whnf)
 ·rw [hv]
  refine br.of (fun h2 => ?_) (fun h2 => ?_) <;> (conv => whnf)
  ·have h2 := of_decide_eq_true h2
   simp only [if_pos (show v < -9007199254740992 ∨ v > 9007199254740992 by omega)]
   exact ⟨trivial, hle, rfl⟩
  have h2 := of_decide_eq_false h2
  refine br.of (fun h3 => ?_) (fun h3 => ?_) <;> (conv => whnf)
  ·have h3 := of_decide_eq_true h3
   simp only [if_pos (show v < -9007199254740992 ∨ v > 9007199254740992 by omega)]
   exact ⟨trivial, hle, rfl⟩
  have h3 := of_decide_eq_false h3
  simp only [if_neg (show ¬ (v < -9007199254740992 ∨ v > 9007199254740992) by omega)]
  exact ⟨trivial, hle, rfl⟩
 ·cases hh : Lib.atoiAll j.text.data.toList with
  | ok u => exact absurd hh (hv u)
  | _ => exact ⟨rfl, hle, rfl⟩
end Go.Kx.Ob
namespace Go.Proofs.YtdknmcaemebgfaaGreatDoor.RowLaid
open Go.ChangeShapes Go.WideShapes Go.ChangeAt Go.RowKit Go.Kx Go.Proofs

def laid : List (String × DataW Unit) := [("math/bits.deBruijn32tab", Rows.laid_math_bits_deBruijn32tab), ("math/bits.deBruijn64tab", Rows.laid_math_bits_deBruijn64tab), ("internal/strconv.uint64pow10", Rows.laid_internal_strconv_uint64pow10), ("unicode/utf8.acceptRanges", Rows.laid_unicode_utf8_acceptRanges), ("strconv.ErrRange", Rows.laid_strconv_ErrRange), ("strconv.ErrSyntax", Rows.laid_strconv_ErrSyntax), ("unicode/utf8.first", Rows.laid_unicode_utf8_first)]
theorem own : ownKnob Tryz.prog.godebug = none := by kernel_rfl
theorem laidOut : laidOutB Tryz.prog = true := by kernel_rfl
theorem star : "*" ++ "errors.errorString" = "*errors.errorString" := by decide
theorem rowE (u : TypeId) (h : Tryz.prog.typeName? 3 u = some "*errors.errorString") : u = 251 :=
 typeName_ptr_named (nm := "errors.errorString") (by rw [star]; kernel_rfl) (by kernel_rfl) (by decide) u (by rw [star]; exact h)
theorem gP : Tryz.prog.globalNamed "internal/strconv.uint64pow10" = some 5 := by kernel_rfl
theorem gS : Tryz.prog.globalNamed "strconv.ErrSyntax" = some 3 := by kernel_rfl
theorem gR : Tryz.prog.globalNamed "strconv.ErrRange" = some 4 := by kernel_rfl
theorem one {W : World} (h : laidMetH Tryz.prog laid W) (nm : String) (d : DataW Unit) (e : laid.filter (fun x => x.1 == nm) = [(nm, d)]) (hp : d.handleName?.isNone = true) : laidMet Tryz.prog [(nm, d)] W := by
 have h1 := h.filter fun x => x.1 == nm
 rw [e, Go.MakeChecks.laidMetH_plain _ _ _ (by simp [hp])] at h1
 exact h1
theorem gd {W : World} (h : laidMetH Tryz.prog laid W) : Gd W fun _ => False := by
 have h1 := one h "internal/strconv.uint64pow10" Rows.laid_internal_strconv_uint64pow10 (by kernel_rfl) (by kernel_rfl)
 have h2 : laidMet Tryz.prog [("internal/strconv.uint64pow10", Lib.tabData .u64 Lib.pow10Tab)] W := by
  rw [show (Lib.tabData .u64 Lib.pow10Tab : DataW Unit) = Rows.laid_internal_strconv_uint64pow10 by kernel_rfl]
  exact h1
 have h3 : W.var? Tryz.prog "internal/strconv.uint64pow10" = some (Lib.pow10Tab.map fun z => Value.int .u64 z).toArray := Lib.tabIs_of_head gP (by kernel_rfl) Tryz.underlying229 Tryz.underlying177 (by kernel_rfl) (by kernel_rfl) h2
 unfold World.var? at h3
 rw [gP] at h3
 simp only [Option.bind_some] at h3
 intro g cs hg
 refine ⟨?_, fun hf => hf⟩
 unfold Gl at hg
 split at hg
 ·rename_i hb
  subst hb
  injection hg with hg
  subst hg
  split at h3
  ·rename_i cs t z hh
   injection h3 with h3
   subst h3
   exact ⟨t, z, by rw [hh]; rfl⟩
  ·cases h3
 ·cases hg
theorem errH {W : World} (h : laidMetH Tryz.prog laid W) : Go.Kx.Ob.ErrH (heapOf W) := by
 rintro g (rfl | rfl)
 ·have h1 := one h "strconv.ErrSyntax" Rows.laid_strconv_ErrSyntax (by kernel_rfl) (by kernel_rfl)
  obtain ⟨a1, s1, hv1, hc1, hs1, hz1⟩ := laid_sentinel h1 gS (by kernel_rfl) (ti := 110) Tryz.underlying110 rowE Tryz.underlying251 Tryz.underlying253 rfl rfl Tryz.underlying9 (by kernel_rfl) (by kernel_rfl)
  exact ⟨_, _, by simpa [heapOf] using World.var?_cell gS hv1 0⟩
 ·have h1 := one h "strconv.ErrRange" Rows.laid_strconv_ErrRange (by kernel_rfl) (by kernel_rfl)
  obtain ⟨a1, s1, hv1, hc1, hs1, hz1⟩ := laid_sentinel h1 gR (by kernel_rfl) (ti := 110) Tryz.underlying110 rowE Tryz.underlying251 Tryz.underlying253 rfl rfl Tryz.underlying9 (by kernel_rfl) (by kernel_rfl)
  exact ⟨_, _, by simpa [heapOf] using World.var?_cell gR hv1 0⟩
noncomputable def low (os : Os) : Nat := (World.holding Tryz.prog os ⟨#[], #[], []⟩).heap.size
def rangeS : ByteArray := ⟨#[118, 97, 108, 117, 101, 32, 111, 117, 116, 32, 111, 102, 32, 114, 97, 110, 103, 101]⟩
def syntaxS : ByteArray := ⟨#[105, 110, 118, 97, 108, 105, 100, 32, 115, 121, 110, 116, 97, 120]⟩
def litsOf : DataW Unit → Array Value
 | .agg l => (l.flatMap fun
  | .lit (.int k v) => [Value.int k v]
  | .agg m => m.filterMap fun
   | .lit (.int k v) => some (Value.int k v)
   | _ => none
  | _ => []).toArray
 | _ => #[]
noncomputable def laidWorld (os : Os) : World :=
 let w0 := World.holding Tryz.prog os ⟨#[.cells #[.string rangeS] 253, .cells #[.string syntaxS] 253], #[], []⟩
 { w0 with heap := ((((((w0.heap.modify 6 fun
   | .cells _ t z => .cells (litsOf Rows.laid_math_bits_deBruijn32tab) t z
   | o => o).modify 7 fun
   | .cells _ t z => .cells (litsOf Rows.laid_math_bits_deBruijn64tab) t z
   | o => o).modify 5 fun
   | .cells _ t z => .cells (litsOf Rows.laid_internal_strconv_uint64pow10) t z
   | o => o).modify 2 fun
   | .cells _ t z => .cells (litsOf Rows.laid_unicode_utf8_acceptRanges) t z
   | o => o).modify 1 fun
   | .cells _ t z => .cells (litsOf Rows.laid_unicode_utf8_first) t z
   | o => o).modify 4 fun
   | .cells _ t z => .cells #[.iface 251 (.pointer (some ⟨low os, 0, Option.none⟩))] t z
   | o => o).modify 3 fun
   | .cells _ t z => .cells #[.iface 251 (.pointer (some ⟨low os + 1, 0, Option.none⟩))] t z
   | o => o }
theorem laidWorld_met (os : Os) (args : Array Value) : laidMetH Tryz.prog laid ((laidWorld os).forCall (fun _ _ => 0) ⟨#[], args, []⟩).memory := by
 rw [Go.MakeChecks.laidMetH_plain _ _ _ (by kernel_rfl)]
 exact laidMet_of_run' 8 (by kernel_rfl) (by kernel_rfl)
end Go.Proofs.YtdknmcaemebgfaaGreatDoor.RowLaid
namespace Go.Proofs
open Go.Shelf
def Tryz.laysGen_ren : Go.Shelf.Ren := ⟨fun | 221 => 199 | 268 => 221 | 138 => 101 | 143 => 139 | 195 => 137 | 197 => 94 | 218 => 138 | 219 => 176 | 260 => 133 | 217 => 136 | 225 => 209 | 224 => 210 | 267 => 211 | 266 => 175 | 314 => 223 | n => n, fun | 9 => 9 | 3 => 3 | 31 => 62 | 4 => 4 | 0 => 0 | 105 => 136 | 21 => 21 | 5 => 5 | 46 => 147 | 119 => 210 | 139 => 213 | 138 => 212 | 146 => 256 | 51 => 189 | n => n, fun | 1 => 0 | 3 => 1 | 4 => 2 | n => n⟩
theorem Tryz.laysGen : Go.Proofs.Lays.n221 Tryz.prog Tryz.laysGen_ren where
 mixed := by kernel_rfl
 f138 := Tryz.func101.trans (congrArg some (by kernel_rfl))
 f143 := Tryz.func139.trans (congrArg some (by kernel_rfl))
 f195 := Tryz.func137.trans (congrArg some (by kernel_rfl))
 f197 := Tryz.func94.trans (congrArg some (by kernel_rfl))
 f217 := Tryz.func136.trans (congrArg some (by kernel_rfl))
 f218 := Tryz.func138.trans (congrArg some (by kernel_rfl))
 f219 := Tryz.func176.trans (congrArg some (by kernel_rfl))
 f221 := Tryz.func199.trans (congrArg some (by kernel_rfl))
 f224 := Tryz.func210.trans (congrArg some (by kernel_rfl))
 f225 := Tryz.func209.trans (congrArg some (by kernel_rfl))
 f260 := Tryz.func133.trans (congrArg some (by kernel_rfl))
 f266 := Tryz.func175.trans (congrArg some (by kernel_rfl))
 f267 := Tryz.func211.trans (congrArg some (by kernel_rfl))
 f268 := Tryz.func221.trans (congrArg some (by kernel_rfl))
 f314 := Tryz.func223.trans (congrArg some (by kernel_rfl))
 t0 := Tryz.underlying0
 a0 := Tryz.isAgg0
 z0 := Tryz.sizeOf0
 v0 := Tryz.zeroValue0
 t3 := Tryz.underlying3
 a3 := Tryz.isAgg3
 z3 := Tryz.sizeOf3
 v3 := Tryz.zeroValue3
 t4 := Tryz.underlying4
 a4 := Tryz.isAgg4
 z4 := Tryz.sizeOf4
 v4 := Tryz.zeroValue4
 t5 := Tryz.underlying5
 a5 := Tryz.isAgg5
 z5 := Tryz.sizeOf5
 v5 := Tryz.zeroValue5
 t9 := Tryz.underlying9
 a9 := Tryz.isAgg9
 z9 := Tryz.sizeOf9
 v9 := Tryz.zeroValue9
 t21 := Tryz.underlying21
 a21 := Tryz.isAgg21
 z21 := Tryz.sizeOf21
 v21 := Tryz.zeroValue21
 t31 := Tryz.underlying62
 a31 := Tryz.isAgg62
 z31 := Tryz.sizeOf62
 v31 := Tryz.zeroValue62
 t46 := Tryz.underlying147
 a46 := Tryz.isAgg147
 z46 := Tryz.sizeOf147
 v46 := Tryz.zeroValue147
 t51 := Tryz.underlying189
 a51 := Tryz.isAgg189
 z51 := Tryz.sizeOf189
 v51 := Tryz.zeroValue189
 t105 := Tryz.underlying136
 a105 := Tryz.isAgg136
 z105 := Tryz.sizeOf136
 v105 := Tryz.zeroValue136
 t119 := Tryz.underlying210
 a119 := Tryz.isAgg210
 z119 := Tryz.sizeOf210
 t138 := Tryz.underlying212
 a138 := Tryz.isAgg212
 z138 := Tryz.sizeOf212
 v138 := Tryz.zeroValue212
 t139 := Tryz.underlying213
 a139 := Tryz.isAgg213
 z139 := Tryz.sizeOf213
 v139 := Tryz.zeroValue213
 t146 := Tryz.underlying256
 a146 := Tryz.isAgg256
 z146 := Tryz.sizeOf256
 v146 := Tryz.zeroValue256
 g1 := by kernel_rfl
 g3 := by kernel_rfl
 g4 := by kernel_rfl
def Tryz.laysCount_ren : Go.Shelf.Ren := ⟨fun | 138 => 101 | 195 => 137 | 218 => 138 | 143 => 139 | 219 => 176 | 217 => 136 | 225 => 209 | 224 => 210 | 267 => 211 | 266 => 175 | 314 => 223 | n => n, fun | 9 => 9 | 3 => 3 | 4 => 4 | 5 => 5 | 0 => 0 | 46 => 147 | 146 => 256 | 51 => 189 | n => n, fun | 1 => 0 | n => n⟩
theorem Tryz.laysCount : Go.Proofs.Lays.n138 Tryz.prog Tryz.laysCount_ren where
 mixed := by kernel_rfl
 f138 := Tryz.func101.trans (congrArg some (by kernel_rfl))
 f143 := Tryz.func139.trans (congrArg some (by kernel_rfl))
 f195 := Tryz.func137.trans (congrArg some (by kernel_rfl))
 f217 := Tryz.func136.trans (congrArg some (by kernel_rfl))
 f218 := Tryz.func138.trans (congrArg some (by kernel_rfl))
 f219 := Tryz.func176.trans (congrArg some (by kernel_rfl))
 f224 := Tryz.func210.trans (congrArg some (by kernel_rfl))
 f225 := Tryz.func209.trans (congrArg some (by kernel_rfl))
 f266 := Tryz.func175.trans (congrArg some (by kernel_rfl))
 f267 := Tryz.func211.trans (congrArg some (by kernel_rfl))
 f314 := Tryz.func223.trans (congrArg some (by kernel_rfl))
 t0 := Tryz.underlying0
 a0 := Tryz.isAgg0
 z0 := Tryz.sizeOf0
 v0 := Tryz.zeroValue0
 t3 := Tryz.underlying3
 a3 := Tryz.isAgg3
 z3 := Tryz.sizeOf3
 v3 := Tryz.zeroValue3
 t4 := Tryz.underlying4
 a4 := Tryz.isAgg4
 z4 := Tryz.sizeOf4
 v4 := Tryz.zeroValue4
 t5 := Tryz.underlying5
 a5 := Tryz.isAgg5
 z5 := Tryz.sizeOf5
 v5 := Tryz.zeroValue5
 t9 := Tryz.underlying9
 a9 := Tryz.isAgg9
 z9 := Tryz.sizeOf9
 v9 := Tryz.zeroValue9
 t46 := Tryz.underlying147
 a46 := Tryz.isAgg147
 z46 := Tryz.sizeOf147
 v46 := Tryz.zeroValue147
 t51 := Tryz.underlying189
 a51 := Tryz.isAgg189
 z51 := Tryz.sizeOf189
 v51 := Tryz.zeroValue189
 t146 := Tryz.underlying256
 a146 := Tryz.isAgg256
 z146 := Tryz.sizeOf256
 v146 := Tryz.zeroValue256
 g1 := by kernel_rfl
def Tryz.laysIndex_ren : Go.Shelf.Ren := ⟨fun | 143 => 139 | 219 => 176 | 217 => 136 | 225 => 209 | 224 => 210 | 267 => 211 | 266 => 175 | 314 => 223 | n => n, fun | 9 => 9 | 3 => 3 | 4 => 4 | 5 => 5 | 46 => 147 | 146 => 256 | 51 => 189 | n => n, fun | 1 => 0 | n => n⟩
theorem Tryz.laysIndex : Go.Proofs.Lays.n143 Tryz.prog Tryz.laysIndex_ren where
 mixed := by kernel_rfl
 f143 := Tryz.func139.trans (congrArg some (by kernel_rfl))
 f217 := Tryz.func136.trans (congrArg some (by kernel_rfl))
 f219 := Tryz.func176.trans (congrArg some (by kernel_rfl))
 f224 := Tryz.func210.trans (congrArg some (by kernel_rfl))
 f225 := Tryz.func209.trans (congrArg some (by kernel_rfl))
 f266 := Tryz.func175.trans (congrArg some (by kernel_rfl))
 f267 := Tryz.func211.trans (congrArg some (by kernel_rfl))
 f314 := Tryz.func223.trans (congrArg some (by kernel_rfl))
 t3 := Tryz.underlying3
 a3 := Tryz.isAgg3
 z3 := Tryz.sizeOf3
 v3 := Tryz.zeroValue3
 t4 := Tryz.underlying4
 a4 := Tryz.isAgg4
 z4 := Tryz.sizeOf4
 v4 := Tryz.zeroValue4
 t5 := Tryz.underlying5
 a5 := Tryz.isAgg5
 z5 := Tryz.sizeOf5
 v5 := Tryz.zeroValue5
 t9 := Tryz.underlying9
 a9 := Tryz.isAgg9
 z9 := Tryz.sizeOf9
 v9 := Tryz.zeroValue9
 t46 := Tryz.underlying147
 a46 := Tryz.isAgg147
 z46 := Tryz.sizeOf147
 v46 := Tryz.zeroValue147
 t51 := Tryz.underlying189
 a51 := Tryz.isAgg189
 z51 := Tryz.sizeOf189
 v51 := Tryz.zeroValue189
 t146 := Tryz.underlying256
 a146 := Tryz.isAgg256
 z146 := Tryz.sizeOf256
 v146 := Tryz.zeroValue256
 g1 := by kernel_rfl

end Go.Proofs
