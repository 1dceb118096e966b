/- A log on a disk: its places, its reads and writes. No condition of its own. -/
import Derived.Test.YtbjiioclhgdeeaaGreatDoorMB13
namespace Go.Kx.Wa
open Go.Proofs Go.Kx Go.RowKit Go.Kx.Wl Go.Kx.Dk Go.Kx.Cr
set_option maxRecDepth 20000
set_option linter.unusedSimpArgs false
def T : Tab := [(5, { k := TK.int IntKind.u8, agg := false, size := 1, bytes := 1, zero := [Z.i IntKind.u8] }), (94, { k := TK.slice 5, agg := false, size := 1, bytes := 24, zero := [Z.sl] }), (96, { k := TK.st [(0, 94, 1), (1, 4, 1), (2, 4, 1), (3, 93, 2), (5, 3, 1)], agg := true, size := 6, bytes := 56, zero := [Z.sl, Z.b, Z.b, Z.i IntKind.i64, Z.i IntKind.i64, Z.i IntKind.i64] }), (93, { k := TK.st [(0, 3, 1), (1, 3, 1)], agg := true, size := 2, bytes := 16, zero := [Z.i IntKind.i64, Z.i IntKind.i64] }), (216, { k := TK.st [(0, 25, 1), (1, 3, 1), (2, 3, 1), (3, 3, 1), (4, 159, 1), (5, 4, 1)], agg := true, size := 6, bytes := 64, zero := [Z.p, Z.i IntKind.i64, Z.i IntKind.i64, Z.i IntKind.i64, Z.sl, Z.b] }), (159, { k := TK.slice 94, agg := false, size := 1, bytes := 24, zero := [Z.sl] }), (4, { k := TK.bool, agg := false, size := 1, bytes := 1, zero := [Z.b] }), (3, { k := TK.int IntKind.i64, agg := false, size := 1, bytes := 8, zero := [Z.i IntKind.i64] }), (279, { k := TK.int IntKind.u32, agg := false, size := 1, bytes := 4, zero := [Z.i IntKind.u32] }), (284, { k := TK.int IntKind.u64, agg := false, size := 1, bytes := 8, zero := [Z.i IntKind.u64] }), (25, { k := TK.ptr 96, agg := false, size := 1, bytes := 8, zero := [Z.p] }), (152, { k := TK.ptr 216, agg := false, size := 1, bytes := 8, zero := [Z.p] }), (30, { k := TK.int IntKind.i64, agg := false, size := 1, bytes := 8, zero := [Z.i IntKind.i64] }), (297, { k := TK.func, agg := false, size := 1, bytes := 8, zero := [Z.fn] }), (20, { k := TK.ifc, agg := false, size := 1, bytes := 16, zero := [Z.ifc] }), (9, { k := TK.string, agg := false, size := 1, bytes := 16, zero := [Z.s] })]
set_option maxRecDepth 100000 in
theorem tab : TabOk Tryz.prog T := tabOk_mk (ts := [5, 94, 96, 93, 216, 159, 4, 3, 279, 284, 25, 152, 30, 297, 20, 9]) (by kernel_rfl)
theorem mixed : Tryz.prog.follows .mixedOrders = true := by kernel_rfl
structure Lg where
 half : Nat
 gen : Nat
 fin : Nat
 dead : Bool
 nr : Nat
 xs : List Value
def logB (l : Lg) : SB := .box 216 [.ptr 1 0, .val (.int .i64 l.half), .val (.int .i64 l.gen), .val (.int .i64 l.fin), .self 3, .val (.bool l.dead)]
def recsB (l : Lg) : SB := .row 94 1 l.nr l.xs
def logG (d : Dk) (l : Lg) : List SB := [dataB d, diskB d, logB l, recsB l]
abbrev lP : SV := .si (.ce (.ptr 2 0))
def iV (n : Nat) : SV := pv (.int .i64 (n : Int))
theorem half_div (n : Nat) : (((n : Nat) : Int).tdiv 2) = ((n / 2 : Nat) : Int) := by rw [Int.tdiv_eq_ediv_of_nonneg (by omega)]; omega
theorem size_ (d : Dk) (l : Lg) (hl : d.bs.length ≤ 1048576) (H : Hp) : CallO Tryz.prog 216 [lP] H (logG d l) fun e H' G' => e = .ret (iV (d.bs.length / 2)) ∧ H' = H ∧ G' = logG d l := by
 refine CallO.of_body tab Tryz.func216 rfl (nt := Tryz.f216.ntmps) rfl (by kernel_rfl) ?_
 (conv => whnf)
 refine ⟨⟨_, Tryz.func285, rfl, by kernel_rfl⟩, CallS.use (Dk.size_ d H) [0, 1] rfl rfl ⟨rfl, rfl, trivial⟩ ?_⟩
 rintro e H2 G' hle2 ⟨rfl, rfl, rfl⟩
 (conv => whnf)
 refine ⟨by decide, ?_⟩
 (conv => whnf)
 rw [half_div, wrap64 (by omega) (by omega)]
 exact ⟨rfl, rfl, rfl⟩
theorem place_ (d : Dk) (l : Lg) (hl : d.bs.length ≤ 1048576) (h a : Nat) (hh : h ≤ 1) (ha : a ≤ 1048576) (H : Hp) : CallO Tryz.prog 218 [lP, iV h, iV a] H (logG d l) fun e H' G' => e = .ret (iV (h * (d.bs.length / 2) + a)) ∧ H' = H ∧ G' = logG d l := by
 refine CallO.of_body tab Tryz.func218 rfl (nt := Tryz.f218.ntmps) rfl (by kernel_rfl) ?_
 (conv => whnf)
 refine ⟨⟨_, Tryz.func216, rfl, by kernel_rfl⟩, CallS.use (size_ d l hl H) [0, 1, 2, 3] rfl rfl ⟨rfl, rfl, rfl, rfl, trivial⟩ ?_⟩
 rintro e H2 G' hle2 ⟨rfl, rfl, rfl⟩
 (conv => whnf)
 have hm : h * (d.bs.length / 2) ≤ 1048576 := by
  have : h = 0 ∨ h = 1 := by omega
  rcases this with rfl | rfl <;> omega
 have e1 : IntKind.i64.wrap ((h : Int) * ((d.bs.length / 2 : Nat) : Int)) = ((h * (d.bs.length / 2) : Nat) : Int) := by
  rw [← Int.natCast_mul, wrap64 (by omega) (by omega)]
 rw [e1, ← Int.natCast_add, wrap64 (by omega) (by omega)]
 exact ⟨rfl, rfl, rfl⟩
theorem read0 (d : Dk) (l : Lg) (hl : d.bs.length ≤ 1048576) (h a n : Nat) (hh : h ≤ 1) (hn : h * (d.bs.length / 2) + a + n ≤ d.bs.length) (h0 : 0 < n) (hd : d.down = false) (H : Hp) :
  CallO Tryz.prog 206 [lP, iV h, iV a, iV n] H (logG d l) fun e _ G' => e = .ret (.si (.ce (.self 4))) ∧ G' = logG d l ++ [.row 5 1 n (bCells ((d.bs.drop (h * (d.bs.length / 2) + a)).take n))] := by
 refine CallO.of_body tab Tryz.func206 rfl (nt := Tryz.f206.ntmps) rfl (by kernel_rfl) ?_
 (conv => whnf)
 refine WS.draw tab mixed (.take 0 (.take 1 (.take 2 (.take 3 (.take 4 (.take 5 (.take 6 (.take 8 (.alt 7 (.alt 9 (.take 10 (.take 11 (.take 12 (.take 13 (.take 14 .done))))) .no) .no))))))))) (by kernel_rfl) [] ?_
 (conv => whnf)
 repeat' (first
  | exact trivial
  | exact rfl
  | exact ⟨_, Tryz.func218, rfl, by kernel_rfl⟩
  | exact ⟨_, Tryz.func276, rfl, by kernel_rfl⟩
  | (refine CallS.use (place_ d l hl h a hh (by omega) H) [0, 1, 2, 3] rfl rfl ⟨rfl, rfl, rfl, rfl, trivial⟩ ?_; rintro e H2 G' hle2 ⟨rfl, rfl, rfl⟩; (conv => whnf))
  | (refine CallS.use (Dk.read_ d (h * (d.bs.length / 2) + a) n hn hl h0 hd _) [0, 1] rfl rfl ⟨rfl, rfl, trivial⟩ ?_; rintro e H3 G' hle3 ⟨rfl, rfl⟩; (conv => whnf))
  | exact ⟨rfl, rfl⟩
  | (refine And.intro ?_ ?_ <;> (conv => whnf)))
theorem read_ (d : Dk) (l : Lg) (hl : d.bs.length ≤ 1048576) (h a n : Nat) (hh : h ≤ 1) (hn : h * (d.bs.length / 2) + a + n ≤ d.bs.length) (h0 : 0 < n) (hd : d.down = false) (H : Hp) :
  CallO Tryz.prog 206 [lP, iV h, iV a, iV n] H (logG d l) fun e H' G' => RetS ((d.bs.drop (h * (d.bs.length / 2) + a)).take n) e H' ∧ G' = logG d l := by
 refine CallO.sub (CallO.frz (K := fun e H' G' => RetS ((d.bs.drop (h * (d.bs.length / 2) + a)).take n) e H' ∧ G' = logG d l ++ [.dead]) (read0 d l hl h a n hh hn h0 hd H) ?_) ?_
 ·rintro e H' G' hle ⟨rfl, rfl⟩
  refine ⟨4, _, 1, n, _, rfl, fun h1 => by omega, fun x H2 hle2 hfr => ?_⟩
  obtain ⟨A, cap, rfl, hb⟩ := SlAt.of_frozen (by rw [List.length_take, List.length_drop]; omega) hfr
  exact ⟨⟨A, n, cap, rfl, hb⟩, rfl⟩
 ·rintro e H' G' hle ⟨⟨A, n, cap, rfl, hb⟩, rfl⟩
  exact ⟨_, logG d l, [0, 1, 2, 3], rfl, ⟨rfl, rfl, rfl, rfl, trivial⟩, rfl, ⟨A, n, cap, rfl, hb⟩, rfl⟩
def lwP (d : Dk) (dead : Bool) (a : Nat) (b : List UInt8) : Dk × Bool := if dead = true then (d, true) else ((wrP d a b).1, !(wrP d a b).2)
theorem write_ (d : Dk) (l : Lg) (hl : d.bs.length ≤ 1048576) (h a : Nat) (A : Option Addr) (n cap : Nat) (b : List UInt8) (hh : h ≤ 1) (hn : h * (d.bs.length / 2) + a + n ≤ d.bs.length) (h0 : 0 < n) (hf : d.lit = true → 0 ≤ d.fb ∧ -9223372036854775807 ≤ d.fw ∧ d.fw ≤ 9223372036854775807) (H : Hp) (hb : SlAt H A n cap b) :
  CallO Tryz.prog 160 [lP, iV h, iV a, pv (.slice A n cap)] H (logG d l) fun e H' G' => e = .ret (pv (.bool (!(lwP d l.dead (h * (d.bs.length / 2) + a) b).2))) ∧ H' = H ∧ ∃ wr, G' = logG { (lwP d l.dead (h * (d.bs.length / 2) + a) b).1 with wr := wr } { l with dead := (lwP d l.dead (h * (d.bs.length / 2) + a) b).2 } := by
 obtain ⟨half, gen, fin, dead, nr, xs⟩ := l
 dsimp only
 have hw := fun H (hb : SlAt H A n cap b) => Dk.write_ d (h * (d.bs.length / 2) + a) A n cap b hn hl h0 hf H hb
 have hp := place_ d ⟨half, gen, fin, dead, nr, xs⟩ hl h a hh (by omega) H
 unfold lwP
 generalize hr : wrP d (h * (d.bs.length / 2) + a) b = r at hw ⊢
 obtain ⟨d2, ok⟩ := r
 dsimp only at hw ⊢
 refine CallO.of_body tab Tryz.func160 rfl (nt := Tryz.f160.ntmps) rfl (by kernel_rfl) ?_
 (conv => whnf)
 cases dead
 ·cases ok
  all_goals
   refine WS.draw tab mixed (.take 0 (.take 1 (.take 2 (.take 3 (.take 4 (.take 5 (.take 6 (.take 7 (.take 8 (.take 9 (.take 10 (.take 11 (.take 13 (.alt 12 (.alt 14 (.take 15 (.take 16 .done)) .no) .no)))))))))))))) (by kernel_rfl) [0, 1] ?_
   (conv => whnf)
   repeat' (first
    | exact trivial
    | exact rfl
    | exact ⟨_, Tryz.func218, rfl, by kernel_rfl⟩
    | exact ⟨_, Tryz.func217, rfl, by kernel_rfl⟩
    | (refine CallS.use hp [0, 1, 2, 3] rfl rfl ⟨rfl, rfl, rfl, rfl, trivial⟩ ?_; rintro e H2 G' hle2 ⟨rfl, rfl, rfl⟩; (conv => whnf))
    | (refine CallS.use (hw _ hb) [0, 1] rfl rfl ⟨rfl, rfl, trivial⟩ ?_; rintro e H3 G' hle3 ⟨rfl, rfl, wr, rfl⟩; (conv => whnf))
    | exact ⟨rfl, rfl, _, rfl⟩
    | (refine And.intro ?_ ?_ <;> (conv => whnf)))
 ·refine WS.draw tab mixed (.take 0 (.take 1 (.take 2 (.take 3 (.take 4 (.take 5 (.take 6 (.take 7 (.take 8 (.take 9 (.take 10 (.take 11 (.take 13 (.alt 12 (.alt 14 (.take 15 (.take 16 .done)) .no) .no)))))))))))))) (by kernel_rfl) [] ?_
  (conv => whnf)
  repeat' (first
   | exact trivial
   | exact rfl
   | exact ⟨rfl, rfl, d.wr, rfl⟩
   | (refine And.intro ?_ ?_ <;> (conv => whnf)))
end Go.Kx.Wa
namespace Go.Kx.Wa
open Go.Proofs Go.Kx Go.RowKit Go.Kx.Wl Go.Kx.Dk Go.Kx.Cr
set_option maxRecDepth 20000
set_option linter.unusedSimpArgs false
section
variable {P : Program}
theorem LO.cap {o : Oper} {t : TypeId} {x : Operand} (ho : o.op = .call ⟨.builtin .cap, #[x], #[t]⟩) {e : TypeId} (ht : P.underlying t = some (.slice e)) {F : Fr} {H : Hp} {G : List SB} {K : SV → Hp → List SB → Prop} {Kp : List PanicEntry → Hp → List SB → Prop}
  {A : Option Addr} {n c : Nat} (hx : evX x F fun sv => sv = pv (.slice A n c)) (h : K (pv (.int .i64 c)) H G) : LO P o F H G K Kp := by
 obtain ⟨sx, h1, hs⟩ := evX_ok hx
 subst h1
 refine LO.of_quiet ⟨_, h, fun ρ a wc hf _ => ⟨_, rfl, fun w _ => ?_⟩⟩
 have e1 : a.eval x = .slice A n c := hs ρ a hf
 simp [execOp, ho, resolve, invoke, builtin, Builtin.cap_, run_underlying ht, e1, goInt, Result.andThen]
end
theorem grow_ (n : Nat) (h0 : 0 < n) (hn : n ≤ 1000000000) (H : Hp) : CallO Tryz.prog 288 [pv (.slice none 0 0), iV n] H [] fun e H' G' => e = .ret (.si (.ce (.self 0))) ∧ H' = H ∧ G' = [.row 5 1 0 []] := by
 have h : CallO Tryz.prog 288 [pv (.slice none 0 0), iV n] H [] fun e H' G' => e = .ret (.si (.ce (.self 1))) ∧ H' = H ∧ ∃ x, G' = [x, .row 5 1 0 []] := by
  refine CallO.of_body tab Tryz.func288 rfl (nt := Tryz.f288.ntmps) rfl (by kernel_rfl) ?_
  (conv => whnf)
  have e1 : IntKind.i64.wrap ((n : Int) - IntKind.i64.wrap (((0 : Nat) : Int) - ((0 : Nat) : Int))) = n := by
   rw [wrap64 (x := ((0 : Nat) : Int) - ((0 : Nat) : Int)) (by omega) (by omega), wrap64 (by omega) (by omega)]; omega
  change LO _ _ _ _ _ _ _
  refine LO.cap (t := 94) (e := 5) (x := .tmp 9) (A := none) (n := 0) (c := 0) ?_ Tryz.underlying94 ?_ ?_
  ·rfl
  ·rfl
  (conv => whnf)
  rw [e1]
  refine br.of (fun h2 => ?_) (fun h2 => absurd (of_decide_eq_false h2) (by omega))
  (conv => whnf)
  change LO _ _ _ _ _ _ _
  refine LO.cap (t := 94) (e := 5) (x := .tmp 18) (A := none) (n := 0) (c := 0) ?_ Tryz.underlying94 ?_ ?_
  ·rfl
  ·rfl
  (conv => whnf)
  refine ⟨⟨by decide, by decide, by decide⟩, ?_⟩
  (conv => whnf)
  refine ⟨⟨by omega, by show (n : Int).toNat * 2 ≤ _; omega, by decide⟩, ?_⟩
  (conv => whnf)
  refine ⟨⟨by decide, by decide, by omega⟩, ?_⟩
  (conv => whnf)
  exact ⟨rfl, rfl, _, rfl⟩
 refine CallO.sub h ?_
 rintro e H' G' hle ⟨rfl, rfl, x, rfl⟩
 exact ⟨.si (.ce (.self 0)), [.row 5 1 0 []], [1], rfl, ⟨rfl, trivial⟩, rfl, rfl, rfl, rfl⟩
def lensOf (ps : List (List UInt8)) : Nat := (ps.map List.length).sum
theorem lens_flat (ps : List (List UInt8)) : ps.flatten.length = lensOf ps := by unfold lensOf; rw [List.length_flatten]
theorem lens_take {ps : List (List UInt8)} {i : Nat} {p : List UInt8} (hi : ps[i]? = some p) : lensOf (ps.take (i + 1)) = lensOf (ps.take i) + p.length := by
 unfold lensOf
 rw [List.take_add_one, hi]
 simp
theorem lens_le (ps : List (List UInt8)) : ∀ i, lensOf (ps.take i) ≤ lensOf ps := by
 intro i
 unfold lensOf
 conv => rhs; rw [← List.take_append_drop i ps]
 rw [List.map_append, List.sum_append]
 omega
theorem flat_take {ps : List (List UInt8)} {i : Nat} {p : List UInt8} (hi : ps[i]? = some p) : (ps.take i).flatten ++ p = (ps.take (i + 1)).flatten := by
 rw [List.take_add_one, hi]
 simp
theorem concat0 (A : Option Addr) (n cap : Nat) (ps : List (List UInt8)) (H : Hp) (hp : PartsAt H A n ps) (hn : n ≤ 1000) (h0 : 0 < lensOf ps) (ht : lensOf ps ≤ 1000000000) :
  CallO Tryz.prog 219 [pv (.slice A n cap)] H [] fun e _ G' => e = .ret (.si (.ce (.self 0))) ∧ G' = [.row 5 1 (lensOf ps) (bCells ps.flatten)] := by
 have h : CallO Tryz.prog 219 [pv (.slice A n cap)] H [] fun e _ G' => e = .ret (.si (.ce (.self 0))) ∧ ∃ x, G' = .row 5 1 (lensOf ps) (bCells ps.flatten) :: x := by
  refine CallO.of_body tab Tryz.func219 rfl (nt := Tryz.f219.ntmps) rfl (by kernel_rfl) ?_
  (conv => whnf)
  refine WS.loop (fun k' F H4 G => ∃ i : Nat, i ≤ n ∧ k' = n - i ∧ F = [(0, pv (.slice A n cap)), (3, iV (lensOf (ps.take i))), (9, pv (.slice A n cap)), (10, iV n), (11, iV i)] ∧ H4 = H ∧ G = []) (n + 1) ?_ ?_
  ·refine ⟨n, by omega, _, _, [], ⟨0, by omega, rfl, rfl, rfl, rfl⟩, ?_⟩
   exact ⟨rfl, trivial, rfl, rfl, rfl, rfl, rfl, trivial⟩
  rintro k' F H4 G hle4 ⟨i, hi, rfl, rfl, rfl, rfl⟩
  refine codeL.go tab ?_
  (conv => whnf)
  have hle := lens_le ps i
  refine br.of (fun h1 => ?_) (fun h1 => ?_) <;> (conv => whnf)
  ·have h1 := of_decide_eq_true h1
   have hil : i < ps.length := by rw [← hp.len]; omega
   have hget : ps[i]? = some ps[i] := List.getElem?_eq_getElem hil
   generalize ps[i] = p at hget
   have hlt := lens_take hget
   have hle1 := lens_le ps (i + 1)
   obtain ⟨hpl, b, o, B, m, c, rfl, hc, hsl⟩ := hp.rd i p hget
   refine ⟨⟨by omega, by omega⟩, ⟨_, _, rfl⟩, ?_⟩
   (conv => whnf)
   refine ⟨_, ⟨b, o, rfl, (show H4 b (o + (i : Int).toNat * 1) = _ by rw [show (i : Int).toNat * 1 = i by omega]; exact hc)⟩, ?_⟩
   (conv => whnf)
   have e1 : IntKind.i64.wrap ((lensOf (ps.take i) : Int) + m) = ((lensOf (ps.take (i + 1)) : Nat) : Int) := by
    rw [hlt, hsl.len, wrap64 (by omega) (by omega)]; omega
   rw [e1]
   have e9 : decide (((lensOf (ps.take (i + 1)) : Nat) : Int) < 0) = false := decide_eq_false (by omega)
   rw [e9]
   (conv => whnf)
   rw [wrap64 (x := (i : Int) + 1) (by omega) (by omega)]
   refine ⟨n - (i + 1), by omega, _, _, [], ⟨i + 1, by omega, rfl, rfl, rfl, rfl⟩, ?_⟩
   exact ⟨rfl, trivial, rfl, rfl, rfl, rfl, rfl, trivial⟩
  ·have h1 := of_decide_eq_false h1
   obtain rfl : i = n := by omega
   have eall : lensOf (ps.take i) = lensOf ps := by rw [hp.len, List.take_length]
   rw [eall]
   refine ⟨⟨_, Tryz.func288, rfl, by kernel_rfl⟩, CallS.use (grow_ _ h0 ht H4) [] rfl rfl trivial ?_⟩
   rintro e H5 G' hle5 ⟨rfl, rfl, rfl⟩
   (conv => whnf)
   refine WS.loop (fun k' F H6 G => ∃ j : Nat, j ≤ i ∧ k' = i - j ∧ F = [(6, .si (.ce (.self 0))), (25, pv (.slice A i cap)), (26, iV i), (27, iV j)] ∧ H6 = H5 ∧ G = [.row 5 1 (lensOf (ps.take j)) (bCells (ps.take j).flatten)]) (i + 1) ?_ ?_
   ·refine ⟨i, by omega, _, _, [0], ⟨0, by omega, rfl, rfl, rfl, rfl⟩, ?_⟩
    exact ⟨rfl, ⟨rfl, trivial⟩, rfl, rfl, rfl, rfl, trivial⟩
   rintro k' F H6 G hle6 ⟨j, hj, rfl, rfl, rfl, rfl⟩
   refine codeL.go tab ?_
   (conv => whnf)
   have hlej := lens_le ps j
   refine br.of (fun h2 => ?_) (fun h2 => ?_) <;> (conv => whnf)
   ·have h2 := of_decide_eq_true h2
    have hil : j < ps.length := by rw [← hp.len]; omega
    have hget : ps[j]? = some ps[j] := List.getElem?_eq_getElem hil
    generalize ps[j] = p at hget
    have hlt := lens_take hget
    have hle1 := lens_le ps (j + 1)
    obtain ⟨hpl, b, o, B, m, c, rfl, hc, hsl⟩ := hp.rd j p hget
    refine ⟨⟨by omega, by omega⟩, ⟨_, _, rfl⟩, ?_⟩
    (conv => whnf)
    refine ⟨_, ⟨b, o, rfl, (show H6 b (o + (j : Int).toNat * 1) = _ by rw [show (j : Int).toNat * 1 = j by omega]; exact hc)⟩, ?_⟩
    (conv => whnf)
    rcases hsl.rd with ⟨h0, rfl⟩ | ⟨b', o', rfl, hr⟩
    ·subst h0
     obtain rfl : p = [] := List.eq_nil_of_length_eq_zero hsl.len.symm
     (conv => whnf)
     refine ⟨by show (_ + 0) * 2 ≤ _; omega, ?_⟩
     (conv => whnf)
     rw [wrap64 (x := (j : Int) + 1) (by omega) (by omega)]
     refine ⟨i - (j + 1), by omega, _, [.row 5 1 (lensOf (ps.take (j + 1))) (bCells (ps.take (j + 1)).flatten)], [1], ⟨j + 1, by omega, rfl, rfl, rfl, rfl⟩, ?_⟩
     refine ⟨rfl, ⟨?_, trivial⟩, rfl, rfl, rfl, rfl, trivial⟩
     have hrow : SB.row 5 1 (lensOf (ps.take (j + 1))) (bCells (ps.take (j + 1)).flatten) = .row 5 1 (lensOf (ps.take j) + 0) (bCells (ps.take j).flatten ++ []) := by rw [hlt, ← flat_take hget, List.append_nil, List.append_nil]; rfl
     rw [hrow]
     exact rfl
    ·refine ⟨bCells p, by rw [bCells_length, hsl.len]; exact (Nat.mul_one _).symm, hr, bCells_one p, ?_⟩
     (conv => whnf)
     have hml := hsl.len
     refine ⟨by show (_ + _) * 2 ≤ _; omega, ?_⟩
     (conv => whnf)
     rw [wrap64 (x := (j : Int) + 1) (by omega) (by omega)]
     refine ⟨i - (j + 1), by omega, _, [.row 5 1 (lensOf (ps.take (j + 1))) (bCells (ps.take (j + 1)).flatten)], [1], ⟨j + 1, by omega, rfl, rfl, rfl, rfl⟩, ?_⟩
     refine ⟨rfl, ⟨?_, trivial⟩, rfl, rfl, rfl, rfl, trivial⟩
     have hrow : SB.row 5 1 (lensOf (ps.take (j + 1))) (bCells (ps.take (j + 1)).flatten) = .row 5 1 (lensOf (ps.take j) + m) (bCells (ps.take j).flatten ++ bCells p) := by rw [hlt, ← flat_take hget, ← bCells_append, hml]
     rw [hrow]
     exact rfl
   ·have h2 := of_decide_eq_false h2
    obtain rfl : j = i := by omega
    rw [eall]
    rw [hp.len, List.take_length]
    exact ⟨rfl, [], rfl⟩
 refine CallO.sub h ?_
 rintro e H' G' hle ⟨rfl, x, rfl⟩
 exact ⟨.si (.ce (.self 0)), [.row 5 1 (lensOf ps) (bCells ps.flatten)], [0], rfl, ⟨rfl, trivial⟩, rfl, rfl, rfl⟩
theorem concat_ (A : Option Addr) (n cap : Nat) (ps : List (List UInt8)) (H : Hp) (hp : PartsAt H A n ps) (hn : n ≤ 1000) (h0 : 0 < lensOf ps) (ht : lensOf ps ≤ 1000000000) :
  CallO Tryz.prog 219 [pv (.slice A n cap)] H [] fun e H' G' => RetS ps.flatten e H' ∧ G' = [] :=
 CallO.slice (lens_flat ps).symm (concat0 A n cap ps H hp hn h0 ht)
theorem equal_ (A B : Option Addr) (n m c d : Nat) (x y : List UInt8) (H : Hp) (hx : SlAt H A n c x) (hy : SlAt H B m d y) (hn : n ≤ 1000000000) :
  CallO Tryz.prog 323 [pv (.slice A n c), pv (.slice B m d)] H [] fun e H' G' => e = .ret (pv (.bool (decide (x = y)))) ∧ H' = H ∧ G' = [] := by
 refine CallO.of_body tab Tryz.func323 rfl (nt := Tryz.f323.ntmps) rfl (by kernel_rfl) ?_
 (conv => whnf)
 by_cases hnm : n = m
 ·subst hnm
  have e1 : (((n : Nat) : Int) != ((n : Nat) : Int)) = false := by simp
  rw [e1]
  (conv => whnf)
  have hlx := hx.len
  have hly := hy.len
  refine WS.loop (fun k' F H4 G => ∃ i : Nat, i ≤ n ∧ x.take i = y.take i ∧ k' = n - i ∧ F = [(0, pv (.slice A n c)), (1, pv (.slice B n d)), (12, iV n), (13, iV i)] ∧ H4 = H ∧ G = []) (n + 1) ?_ ?_
  ·refine ⟨n, by omega, _, _, [], ⟨0, by omega, rfl, rfl, rfl, rfl, rfl⟩, ?_⟩
   exact ⟨rfl, trivial, rfl, rfl, rfl, rfl, trivial⟩
  rintro k' F H4 G hle4 ⟨i, hi, htk, rfl, rfl, rfl, rfl⟩
  refine codeL.go tab ?_
  (conv => whnf)
  refine br.of (fun h1 => ?_) (fun h1 => ?_) <;> (conv => whnf)
  ·have h1 := of_decide_eq_true h1
   have hin : i < n := by omega
   refine WS.draw tab mixed (.take 0 (.take 1 (.take 2 (.take 3 (.take 4 (.take 5 (.take 6 (.take 7 (.take 8 .done))))))))) (by kernel_rfl) [] ?_
   (conv => whnf)
   refine ⟨⟨by omega, by omega⟩, hx.addr (by omega), ?_⟩
   (conv => whnf)
   refine ⟨_, hx.get hin (by show (i : Int).toNat * 1 = i; omega), ?_⟩
   (conv => whnf)
   refine ⟨⟨by omega, by omega⟩, hy.addr (by omega), ?_⟩
   (conv => whnf)
   refine ⟨_, hy.get hin (by show (i : Int).toNat * 1 = i; omega), ?_⟩
   (conv => whnf)
   cases hd : ((byteN x i : Nat) : Int) != ((byteN y i : Nat) : Int)
   ·(conv => whnf)
    rw [wrap64 (x := (i : Int) + 1) (by omega) (by omega)]
    have hb : x.getD i 0 = y.getD i 0 := by
     apply UInt8.toNat.inj
     have h3 : ((byteN x i : Nat) : Int) = ((byteN y i : Nat) : Int) := by simpa using hd
     have : byteN x i = byteN y i := by omega
     exact this
    have htk2 : x.take (i + 1) = y.take (i + 1) := by
     rw [List.getD_eq_getElem?_getD, List.getD_eq_getElem?_getD, List.getElem?_eq_getElem (by omega), List.getElem?_eq_getElem (by omega)] at hb
     rw [List.take_add_one, List.take_add_one, htk, List.getElem?_eq_getElem (by omega), List.getElem?_eq_getElem (by omega)]
     simp only [Option.getD_some] at hb
     rw [hb]
    refine ⟨n - (i + 1), by omega, _, _, [], ⟨i + 1, by omega, htk2, rfl, rfl, rfl, rfl⟩, ?_⟩
    exact ⟨rfl, trivial, rfl, rfl, rfl, rfl, trivial⟩
   ·(conv => whnf)
    have hxy : ¬ x = y := fun h => by rw [h] at hd; simp at hd
    rw [decide_eq_false hxy]
    exact ⟨rfl, rfl, rfl⟩
  ·have h1 := of_decide_eq_false h1
   obtain rfl : i = n := by omega
   have hxy : x = y := by rw [← List.take_length (l := x), ← List.take_length (l := y), ← hlx, ← hly]; exact htk
   rw [decide_eq_true hxy]
   exact ⟨rfl, rfl, rfl⟩
 ·have e1 : (((n : Nat) : Int) != ((m : Nat) : Int)) = true := by simp; omega
  rw [e1]
  (conv => whnf)
  have hxy : ¬ x = y := fun h => hnm (by rw [hx.len, hy.len, h])
  rw [decide_eq_false hxy]
  exact ⟨rfl, rfl, rfl⟩
theorem nonz_ (c : UInt8) (H : Hp) : CallO Tryz.prog 223 [pv (.int .u8 (c.toNat : Int))] H [] fun e H' G' => e = .ret (pv (.bool (decide (c ≠ 0)))) ∧ H' = H ∧ G' = [] := by
 refine CallO.of_body tab Tryz.func223 rfl (nt := Tryz.f223.ntmps) rfl (by kernel_rfl) ?_
 (conv => whnf)
 have e : (((c.toNat : Nat) : Int) != 0) = decide (c ≠ 0) := by
  by_cases h : c = 0
  ·subst h; rfl
  ·have : c.toNat ≠ 0 := fun h2 => h (UInt8.toNat.inj (by rw [h2]; rfl))
   rw [decide_eq_true h]
   simp
   omega
 rw [e]
 exact ⟨rfl, rfl, rfl⟩
theorem getD_byte (bs : List UInt8) (i : Nat) : byteN bs i = (bs.getD i 0).toNat := rfl
theorem index_ (A : Option Addr) (n c : Nat) (x : List UInt8) (H : Hp) (hx : SlAt H A n c x) (hn : n ≤ 1000000000) :
  CallO Tryz.prog 289 [pv (.slice A n c), .si (.ce (.fn (.func 223) 0 []))] H [] fun e H' G' => (∃ v : Int, e = .ret (pv (.int .i64 v)) ∧ (0 ≤ v ↔ x.any (fun c => decide (c ≠ 0)) = true)) ∧ H' = H ∧ G' = [] := by
 refine CallO.of_body tab Tryz.func289 rfl (nt := Tryz.f289.ntmps) rfl (by kernel_rfl) ?_
 (conv => whnf)
 have hlx := hx.len
 refine WS.loop (fun k' F H4 G => ∃ i : Nat, i ≤ n ∧ (x.take i).any (fun c => decide (c ≠ 0)) = false ∧ k' = n - i ∧ F = [(0, pv (.slice A n c)), (1, .si (.ce (.fn (.func 223) 0 []))), (7, iV n), (8, iV i)] ∧ H4 = H ∧ G = []) (n + 1) ?_ ?_
 ·refine ⟨n, by omega, _, _, [], ⟨0, by omega, rfl, rfl, rfl, rfl, rfl⟩, ?_⟩
  exact ⟨rfl, trivial, rfl, rfl, rfl, rfl, trivial⟩
 rintro k' F H4 G hle4 ⟨i, hi, htk, rfl, rfl, rfl, rfl⟩
 refine codeL.go tab ?_
 (conv => whnf)
 refine br.of (fun h1 => ?_) (fun h1 => ?_) <;> (conv => whnf)
 ·have h1 := of_decide_eq_true h1
  have hin : i < n := by omega
  refine ⟨⟨by omega, by omega⟩, hx.addr (by omega), ?_⟩
  (conv => whnf)
  refine ⟨_, hx.get hin (by show (i : Int).toNat * 1 = i; omega), ?_⟩
  (conv => whnf)
  refine ⟨⟨_, Tryz.func223, rfl, by kernel_rfl⟩, CallS.use (nonz_ (x.getD i 0) H4) [] rfl rfl trivial ?_⟩
  rintro e H5 G' hle5 ⟨rfl, rfl, rfl⟩
  have hnx : (x.take (i + 1)).any (fun c => decide (c ≠ 0)) = decide (x.getD i 0 ≠ 0) := by
   rw [List.take_add_one, List.any_append, htk, Bool.false_or, List.getD_eq_getElem?_getD, List.getElem?_eq_getElem (by omega)]
   simp
  cases hd : decide (x.getD i 0 ≠ 0)
  ·(conv => whnf)
   rw [wrap64 (x := (i : Int) + 1) (by omega) (by omega)]
   refine ⟨n - (i + 1), by omega, _, _, [], ⟨i + 1, by omega, by rw [hnx]; exact hd, rfl, rfl, rfl, rfl⟩, ?_⟩
   exact ⟨rfl, trivial, rfl, rfl, rfl, rfl, trivial⟩
  ·(conv => whnf)
   refine ⟨⟨i, rfl, fun _ => ?_, fun _ => by omega⟩, rfl, rfl⟩
   rw [← List.take_append_drop (i + 1) x, List.any_append, hnx, hd, Bool.true_or]
 ·have h1 := of_decide_eq_false h1
  obtain rfl : i = n := by omega
  rw [hlx, List.take_length] at htk
  rw [htk]
  exact ⟨⟨-1, rfl, fun h => absurd h (by decide), fun h => (nomatch h)⟩, rfl, rfl⟩
theorem contains_ (A : Option Addr) (n c : Nat) (x : List UInt8) (H : Hp) (hx : SlAt H A n c x) (hn : n ≤ 1000000000) :
  CallO Tryz.prog 222 [pv (.slice A n c), .si (.ce (.fn (.func 223) 0 []))] H [] fun e H' G' => e = .ret (pv (.bool (x.any (fun c => decide (c ≠ 0))))) ∧ H' = H ∧ G' = [] := by
 refine CallO.of_body tab Tryz.func222 rfl (nt := Tryz.f222.ntmps) rfl (by kernel_rfl) ?_
 (conv => whnf)
 refine ⟨⟨_, Tryz.func289, rfl, by kernel_rfl⟩, CallS.use (index_ A n c x H hx hn) [] rfl rfl trivial ?_⟩
 rintro e H5 G' hle5 ⟨⟨v, rfl, hv⟩, rfl, rfl⟩
 (conv => whnf)
 have e1 : decide (v ≥ 0) = x.any (fun c => decide (c ≠ 0)) := by
  cases hb : x.any (fun c => decide (c ≠ 0))
  ·exact decide_eq_false fun h => by have := hv.1 h; rw [hb] at this; cases this
  ·exact decide_eq_true (hv.2 hb)
 rw [e1]
 exact ⟨rfl, rfl, rfl⟩
end Go.Kx.Wa
namespace Go.Kx.Wa
open Go.Proofs Go.Kx Go.RowKit Go.Kx.Wl Go.Kx.Dk Go.Kx.Cr
set_option maxRecDepth 20000
set_option linter.unusedSimpArgs false
theorem sub0 {A : Option Addr} {n cap : Nat} {bs : List UInt8} {H : Hp} (h : SlAt H A n cap bs) : subA A cap (Int.toNat 0) 1 = A := by
 show subA A cap 0 1 = A
 unfold subA
 rcases h.rd with ⟨_, rfl⟩ | ⟨b, o, rfl, _⟩
 ·split <;> rfl
 ·split
  ·rfl
  ·rw [Option.map_some, Addr.add_lit]
   rfl
theorem number_ (A : Option Addr) (n cap : Nat) (bs : List UInt8) (H : Hp) (hb : SlAt H A n cap bs) (h4 : 4 ≤ n) : CallO Tryz.prog 207 [pv (.slice A n cap)] H [] fun e H' G' => e = .ret (iV (num4 (bs.take 4))) ∧ H' = H ∧ G' = [] := by
 have hr := hb.room
 have ht := hb.take h4
 have hl : (bs.take 4).length = 4 := by rw [List.length_take, ← hb.len]; omega
 refine CallO.of_body tab Tryz.func207 rfl (nt := Tryz.f207.ntmps) rfl (by kernel_rfl) ?_
 (conv => whnf)
 refine ⟨⟨by decide, by decide, by omega⟩, ?_⟩
 (conv => whnf)
 refine ⟨⟨_, Tryz.func208, rfl, by kernel_rfl⟩, CallS.use (Cr.get_ (subA A cap 0 1) (cap - 0) (bs.take 4) H ht) [] rfl rfl trivial ?_⟩
 rintro e H2 G' hle2 ⟨rfl, rfl, rfl⟩
 (conv => whnf)
 have := num4_lt hl
 rw [wrap64 (by omega) (by omega)]
 exact ⟨rfl, rfl, rfl⟩
theorem wrapU (n : Nat) (hn : n < 4294967296) : IntKind.u32.wrap (n : Int) = (n : Int) := w32 (by omega) (by omega)
theorem bytes_ (n : Nat) (hn : n < 4294967296) (H : Hp) : CallO Tryz.prog 220 [iV n] H [] fun e H' G' => RetS (be4 n) e H' ∧ G' = [] := by
 refine CallO.of_body tab Tryz.func220 rfl (nt := Tryz.f220.ntmps) rfl (by kernel_rfl) ?_
 (conv => whnf)
 rw [wrapU n hn]
 refine ⟨⟨_, Tryz.func224, rfl, by kernel_rfl⟩, CallS.use (put_ n H) [] rfl rfl trivial ?_⟩
 rintro e H2 G' hle2 ⟨⟨A, m, cap, rfl, hs⟩, rfl⟩
 (conv => whnf)
 exact ⟨⟨A, m, cap, rfl, hs⟩, rfl⟩
theorem parts1 {H : Hp} {g : Nat} {A : Option Addr} {n c : Nat} {p : List UInt8} (h : SlAt H A n c p) (hp : p.length ≤ 1000000000) (hrd : RdN H (some ⟨g, 0, none⟩) 0 [.slice A n c]) : PartsAt H (some ⟨g, 0, none⟩) 1 [p] := by
 refine ⟨rfl, fun i q hq => ?_⟩
 obtain ⟨b, o, e, hr⟩ := hrd
 injection e with e; injection e with e1 e2; subst e1 e2
 match i, hq with
 | 0, hq => injection hq with hq; subst hq; exact ⟨hp, _, _, _, _, _, rfl, hr 0 _ rfl, h⟩
theorem parts2 {H : Hp} {g : Nat} {A : Option Addr} {n c : Nat} {p : List UInt8} (h : SlAt H A n c p) (hp : p.length ≤ 1000000000) {A2 : Option Addr} {n2 c2 : Nat} {p2 : List UInt8} (h2 : SlAt H A2 n2 c2 p2) (hp2 : p2.length ≤ 1000000000)
  (hrd : RdN H (some ⟨g, 0, none⟩) 0 [.slice A n c, .slice A2 n2 c2]) : PartsAt H (some ⟨g, 0, none⟩) 2 [p, p2] := by
 refine ⟨rfl, fun i q hq => ?_⟩
 obtain ⟨b, o, e, hr⟩ := hrd
 injection e with e; injection e with e1 e2; subst e1 e2
 match i, hq with
 | 0, hq => injection hq with hq; subst hq; exact ⟨hp, _, _, _, _, _, rfl, hr 0 _ rfl, h⟩
 | 1, hq => injection hq with hq; subst hq; exact ⟨hp2, _, _, _, _, _, rfl, hr 1 _ rfl, h2⟩
theorem parts4 {H : Hp} {g : Nat} {A : Option Addr} {n c : Nat} {p : List UInt8} (h : SlAt H A n c p) (hp : p.length ≤ 1000000000) {A2 : Option Addr} {n2 c2 : Nat} {p2 : List UInt8} (h2 : SlAt H A2 n2 c2 p2) (hp2 : p2.length ≤ 1000000000)
  {A3 : Option Addr} {n3 c3 : Nat} {p3 : List UInt8} (h3 : SlAt H A3 n3 c3 p3) (hp3 : p3.length ≤ 1000000000) {A4 : Option Addr} {n4 c4 : Nat} {p4 : List UInt8} (h4 : SlAt H A4 n4 c4 p4) (hp4 : p4.length ≤ 1000000000)
  (hrd : RdN H (some ⟨g, 0, none⟩) 0 [.slice A n c, .slice A2 n2 c2, .slice A3 n3 c3, .slice A4 n4 c4]) : PartsAt H (some ⟨g, 0, none⟩) 4 [p, p2, p3, p4] := by
 refine ⟨rfl, fun i q hq => ?_⟩
 obtain ⟨b, o, e, hr⟩ := hrd
 injection e with e; injection e with e1 e2; subst e1 e2
 match i, hq with
 | 0, hq => injection hq with hq; subst hq; exact ⟨hp, _, _, _, _, _, rfl, hr 0 _ rfl, h⟩
 | 1, hq => injection hq with hq; subst hq; exact ⟨hp2, _, _, _, _, _, rfl, hr 1 _ rfl, h2⟩
 | 2, hq => injection hq with hq; subst hq; exact ⟨hp3, _, _, _, _, _, rfl, hr 2 _ rfl, h3⟩
 | 3, hq => injection hq with hq; subst hq; exact ⟨hp4, _, _, _, _, _, rfl, hr 3 _ rfl, h4⟩
theorem sum_ (g a : Nat) (hg : g < 4294967296) (ha : a < 4294967296) (A : Option Addr) (n cap : Nat) (b : List UInt8) (H : Hp) (hb : SlAt H A n cap b) (hn : n ≤ 1000000000) : CallO Tryz.prog 221 [iV g, iV a, pv (.slice A n cap)] H [] fun e H' G' => RetS (sumP g a b) e H' ∧ G' = [] := by
 refine CallO.of_body tab Tryz.func221 rfl (nt := Tryz.f221.ntmps) rfl (by kernel_rfl) ?_
 (conv => whnf)
 refine ⟨⟨_, Tryz.func220, rfl, by kernel_rfl⟩, CallS.use (bytes_ g hg H) [] rfl rfl trivial ?_⟩
 rintro e H2 G' hle2 ⟨⟨A1, n1, c1, rfl, h1⟩, rfl⟩
 (conv => whnf)
 refine ⟨⟨_, Tryz.func220, rfl, by kernel_rfl⟩, CallS.use (bytes_ a ha H2) [] rfl rfl trivial ?_⟩
 rintro e H3 G' hle3 ⟨⟨A2, n2, c2, rfl, h2⟩, rfl⟩
 (conv => whnf)
 refine ⟨⟨_, Tryz.func220, rfl, by kernel_rfl⟩, CallS.use (bytes_ n (by omega) H3) [] rfl rfl trivial ?_⟩
 rintro e H4 G' hle4 ⟨⟨A3, n3, c3, rfl, h3⟩, rfl⟩
 (conv => whnf)
 refine ⟨by decide, .inl ?_⟩
 intro gg H5 hle5 hrd
 (conv => whnf)
 have hp : PartsAt H5 (some ⟨gg, 0, none⟩) 4 [be4 g, be4 a, be4 n, b] := parts4 (h1.mono ((hle3.trans hle4).trans hle5)) (by rw [be4_len]; decide) (h2.mono (hle4.trans hle5)) (by rw [be4_len]; decide) (h3.mono hle5) (by rw [be4_len]; decide) (hb.mono (((hle2.trans hle3).trans hle4).trans hle5)) (by rw [← hb.len]; exact hn) hrd
 refine ⟨⟨_, Tryz.func209, rfl, by kernel_rfl⟩, CallS.use (sums_ _ 4 4 _ H5 hp (by decide)) [] rfl rfl trivial ?_⟩
 rintro e H6 G' hle6 ⟨rfl, rfl, rfl⟩
 (conv => whnf)
 refine ⟨⟨_, Tryz.func224, rfl, by kernel_rfl⟩, CallS.use (put_ _ H6) [] rfl rfl trivial ?_⟩
 rintro e H7 G' hle7 ⟨⟨A7, n7, c7, rfl, h7⟩, rfl⟩
 (conv => whnf)
 refine ⟨⟨A7, n7, c7, rfl, ?_⟩, rfl⟩
 have e1 : [be4 g, be4 a, be4 n, b].flatten = be4 g ++ be4 a ++ be4 b.length ++ b := by rw [hb.len]; simp
 rw [e1] at h7
 exact h7
theorem record_ (g a : Nat) (hg : g < 4294967296) (ha : a < 4294967296) (A : Option Addr) (n cap : Nat) (b : List UInt8) (m : UInt8) (H : Hp) (hb : SlAt H A n cap b) (hn : n ≤ 100000000) : CallO Tryz.prog 161 [iV g, iV a, pv (.slice A n cap), pv (.int .u8 (m.toNat : Int))] H [] fun e H' G' => RetS (recB g a b m) e H' ∧ G' = [] := by
 refine CallO.of_body tab Tryz.func161 rfl (nt := Tryz.f161.ntmps) rfl (by kernel_rfl) ?_
 (conv => whnf)
 refine ⟨⟨_, Tryz.func220, rfl, by kernel_rfl⟩, CallS.use (bytes_ n (by omega) H) [] rfl rfl trivial ?_⟩
 rintro e H2 G' hle2 ⟨⟨A1, n1, c1, rfl, h1⟩, rfl⟩
 (conv => whnf)
 refine ⟨⟨_, Tryz.func221, rfl, by kernel_rfl⟩, CallS.use (sum_ g a hg ha A n cap b H2 (hb.mono hle2) (by omega)) [] rfl rfl trivial ?_⟩
 rintro e H3 G' hle3 ⟨⟨A2, n2, c2, rfl, h2⟩, rfl⟩
 (conv => whnf)
 refine ⟨by decide, .inl ?_⟩
 intro g1 H4 hle4 hrd1
 (conv => whnf)
 refine ⟨by decide, .inl ?_⟩
 intro g2 H5 hle5 hrd
 (conv => whnf)
 have h3 : SlAt H5 (some ⟨g1, 0, none⟩) 1 1 [m] := ⟨rfl, Nat.le_refl _, .inr ⟨g1, 0, rfl, hrd1.mono hle5⟩⟩
 have hp : PartsAt H5 (some ⟨g2, 0, none⟩) 4 [be4 n, sumP g a b, [m], b] := parts4 (h1.mono ((hle3.trans hle4).trans hle5)) (by rw [be4_len]; decide) (h2.mono (hle4.trans hle5)) (by unfold sumP; rw [be4_len]; decide) h3 (by simp) (hb.mono (((hle2.trans hle3).trans hle4).trans hle5)) (by rw [← hb.len]; omega) hrd
 have hl : lensOf [be4 n, sumP g a b, [m], b] = 9 + n := by
  unfold lensOf sumP
  simp only [List.map_cons, List.map_nil, List.sum_cons, List.sum_nil, be4_len, List.length_cons, List.length_nil]
  rw [← hb.len]
  omega
 refine ⟨⟨_, Tryz.func219, rfl, by kernel_rfl⟩, CallS.use (concat_ _ 4 4 _ H5 hp (by decide) (by omega) (by omega)) [] rfl rfl trivial ?_⟩
 rintro e H6 G' hle6 ⟨⟨A6, n6, c6, rfl, h6⟩, rfl⟩
 (conv => whnf)
 refine ⟨⟨A6, n6, c6, rfl, ?_⟩, rfl⟩
 have e1 : [be4 n, sumP g a b, [m], b].flatten = recB g a b m := by
  unfold recB
  rw [hb.len]
  simp
 rw [e1] at h6
 exact h6
end Go.Kx.Wa
namespace Go.Kx.Wa
open Go.Proofs Go.Kx Go.RowKit Go.Kx.Wl Go.Kx.Dk Go.Kx.Cr
set_option maxRecDepth 20000
set_option linter.unusedSimpArgs false
theorem read_half {D : List UInt8} {hs h a n : Nat} (hn : a + n ≤ hs) : (D.drop (h * hs + a)).take n = ((halfOf D hs h).drop a).take n := by
 unfold halfOf
 rw [List.drop_take, List.take_take, List.drop_drop, Nat.min_eq_left (by omega)]
theorem half_len {D : List UInt8} {h : Nat} (hh : h ≤ 1) : (halfOf D (D.length / 2) h).length = D.length / 2 := by
 unfold halfOf
 have : h = 0 ∨ h = 1 := by omega
 rcases this with rfl | rfl <;> simp <;> omega
theorem half_end {D : List UInt8} {h : Nat} (hh : h ≤ 1) : h * (D.length / 2) + D.length / 2 ≤ D.length := by
 have : h = 0 ∨ h = 1 := by omega
 rcases this with rfl | rfl <;> omega
theorem get_some {R : List UInt8} {i : Nat} (hi : i < R.length) (c : UInt8) : R[i]? = some c ↔ byteN R i = c.toNat := by
 unfold byteN
 rw [List.getD_eq_getElem?_getD, List.getElem?_eq_getElem hi]
 constructor
 ·intro h; injection h with h; rw [h]; rfl
 ·intro h; rw [Option.getD_some] at h; rw [UInt8.toNat.inj h]
theorem byteN_take {R : List UInt8} {i n : Nat} (hi : i < n) : byteN (R.take n) i = byteN R i := by
 unfold byteN
 rw [List.getD_eq_getElem?_getD, List.getD_eq_getElem?_getD, List.getElem?_take, if_pos hi]
theorem gen_ (d : Dk) (l : Lg) (h1 : 1024 ≤ d.bs.length) (hl : d.bs.length ≤ 1048576) (h : Nat) (hh : h ≤ 1) (hd : d.down = false) (H : Hp) :
  CallO Tryz.prog 144 [lP, iV h] H (logG d l) fun e H' G' => e = .ret (iV (genP (halfOf d.bs (d.bs.length / 2) h))) ∧ G' = logG d l ∧ H.Le H' := by
 have he := half_end (D := d.bs) hh
 have hrd := read_ d l hl h 0 16 hh (by omega) (by decide) hd H
 rw [read_half (by omega), List.drop_zero] at hrd
 have hRl := half_len (D := d.bs) hh
 generalize halfOf d.bs (d.bs.length / 2) h = R at hrd hRl ⊢
 have hR16 : (R.take 16).length = 16 := by rw [List.length_take]; omega
 refine CallO.of_body tab Tryz.func144 rfl (nt := Tryz.f144.ntmps) rfl (by kernel_rfl) ?_
 (conv => whnf)
 refine ⟨⟨_, Tryz.func206, rfl, by kernel_rfl⟩, CallS.use hrd [0, 1, 2, 3] rfl rfl ⟨rfl, rfl, rfl, rfl, trivial⟩ ?_⟩
 rintro e H2 G' hle2 ⟨⟨A, n, cap, rfl, hs⟩, rfl⟩
 (conv => whnf)
 have hn : n = 16 := by rw [hs.len, hR16]
 subst hn
 refine ⟨⟨_, Tryz.func207, rfl, by kernel_rfl⟩, CallS.use (number_ A 16 cap _ H2 hs (by decide)) [] rfl rfl trivial ?_⟩
 rintro e H3 G' hle3 ⟨rfl, rfl, rfl⟩
 (conv => whnf)
 have hroom := hs.room
 refine ⟨⟨by decide, by decide, by omega⟩, ?_⟩
 (conv => whnf)
 have hp := hs.piece (l := 4) (u := 8) (by decide) (by decide)
 refine ⟨⟨_, Tryz.func208, rfl, by kernel_rfl⟩, CallS.use (Cr.get_ _ _ _ H3 hp) [] rfl rfl trivial ?_⟩
 rintro e H4 G' hle4 ⟨rfl, rfl, rfl⟩
 (conv => whnf)
 refine ⟨⟨by decide, by decide⟩, hs.addr (by decide), ?_⟩
 (conv => whnf)
 refine ⟨_, hs.get (i := 8) (by decide) rfl, ?_⟩
 (conv => whnf)
 have e4 : (R.take 16).take 4 = R.take 4 := by rw [List.take_take]; rfl
 have e8 : ((R.take 16).drop 4).take (8 - 4) = (R.drop 4).take 4 := by rw [List.drop_take, List.take_take]; rfl
 rw [e4, e8, byteN_take (by decide)]
 have hlt := num4_lt (l := R.take 4) (by rw [List.length_take]; omega)
 cases hb : ((byteN R 8 : Nat) : Int) != 1
 ·have h8 : R[8]? = some 1 := by
   rw [get_some (by omega)]
   have h3 : ((byteN R 8 : Nat) : Int) = 1 := by simpa using hb
   show byteN R 8 = 1
   omega
  (conv => whnf)
  refine ⟨⟨by decide, by decide, by omega⟩, ?_⟩
  (conv => whnf)
  refine ⟨by decide, .inl ?_⟩
  intro g H5 hle5 hrd5
  (conv => whnf)
  have ht := (hs.take (u := 4) (by decide)).mono hle5
  have hpt : PartsAt H5 (some ⟨g, 0, none⟩) 1 [(R.take 16).take 4] := parts1 ht (by rw [List.length_take]; omega) hrd5
  refine ⟨⟨_, Tryz.func209, rfl, by kernel_rfl⟩, CallS.use (sums_ _ 1 1 _ H5 hpt (by decide)) [] rfl rfl trivial ?_⟩
  rintro e H6 G' hle6 ⟨rfl, rfl, rfl⟩
  (conv => whnf)
  have e1 : [(R.take 16).take 4].flatten = R.take 4 := by rw [e4]; simp
  rw [e1]
  have hc4 : ((R.drop 4).take 4).length = 4 := by rw [List.length_take, List.length_drop]; omega
  have hcl := crc_lt (R.take 4)
  cases hq : ((num4 ((R.drop 4).take 4) : Nat) : Int) != ((crcP (R.take 4) : Nat) : Int)
  ·have hq2 : (R.drop 4).take 4 = be4 (crcP (R.take 4)) := by
    rw [← num4_eq hc4 hcl]
    have h3 : ((num4 ((R.drop 4).take 4) : Nat) : Int) = ((crcP (R.take 4) : Nat) : Int) := by simpa using hq
    omega
   (conv => whnf)
   refine br.of (fun h5 => ?_) (fun h5 => ?_) <;> (conv => whnf)
   ·have h5 := of_decide_eq_true h5
    have eg : genP R = 0 := by
     unfold genP
     rw [if_neg (fun h => by have := h.2.2; omega)]
    rw [eg]
    exact ⟨rfl, rfl, hle2.trans hle5⟩
   ·have h5 := of_decide_eq_false h5
    have eg : genP R = num4 (R.take 4) := by
     unfold genP
     rw [if_pos ⟨h8, hq2, by omega⟩]
    rw [eg]
    exact ⟨rfl, rfl, hle2.trans hle5⟩
  ·have hq2 : ¬ (R.drop 4).take 4 = be4 (crcP (R.take 4)) := by
    rw [← num4_eq hc4 hcl]
    intro h
    rw [h] at hq
    simp at hq
   (conv => whnf)
   have eg : genP R = 0 := by
    unfold genP
    rw [if_neg (fun h => hq2 h.2.1)]
   rw [eg]
   exact ⟨rfl, rfl, hle2.trans hle5⟩
 ·have h8 : ¬ R[8]? = some 1 := by
   rw [get_some (by omega)]
   intro h
   have h : byteN R 8 = 1 := h
   rw [h] at hb
   simp at hb
  (conv => whnf)
  have eg : genP R = 0 := by
   unfold genP
   rw [if_neg (fun h => h8 h.1)]
  rw [eg]
  exact ⟨rfl, rfl, hle2⟩
def RNext (x : Option (List UInt8)) (e : SE) (H' : Hp) : Prop := match x with
 | none => ∃ v, e = .ret (.tu [.ce (.val v), .ce (.val (.bool false))])
 | some b => ∃ A n cap, e = .ret (.tu [.ce (.val (.slice A n cap)), .ce (.val (.bool true))]) ∧ SlAt H' A n cap b
theorem next_ (d : Dk) (l : Lg) (hl : d.bs.length ≤ 1048576) (hh : l.half ≤ 1) (hg : l.gen < 4294967296) (hd : d.down = false) (a : Nat) (ha : a ≤ 1048576) (H : Hp) :
  CallO Tryz.prog 280 [lP, iV a] H (logG d l) fun e H' G' => RNext (nextP (halfOf d.bs (d.bs.length / 2) l.half) l.gen a) e H' ∧ G' = logG d l ∧ H.Le H' := by
 have he := half_end (D := d.bs) hh
 have hrd := fun a n h2 h3 H => read_ d l hl l.half a n hh h2 h3 hd H
 have hrh := fun a n h2 => read_half (D := d.bs) (hs := d.bs.length / 2) (h := l.half) (a := a) (n := n) h2
 have hRl := half_len (D := d.bs) hh
 have hsz := size_ d l hl
 generalize hhs : d.bs.length / 2 = hs at *
 generalize halfOf d.bs hs l.half = R at hrh hRl ⊢
 refine CallO.of_body tab Tryz.func280 rfl (nt := Tryz.f280.ntmps) rfl (by kernel_rfl) ?_
 (conv => whnf)
 rw [wrap64 (x := (a : Int) + 9) (by omega) (by omega)]
 refine ⟨⟨_, Tryz.func216, rfl, by kernel_rfl⟩, CallS.use (hsz H) [0, 1, 2, 3] rfl rfl ⟨rfl, rfl, rfl, rfl, trivial⟩ ?_⟩
 rintro e H2 G' hle2 ⟨rfl, rfl, rfl⟩
 (conv => whnf)
 refine br.of (fun h5 => ?_) (fun h5 => ?_) <;> (conv => whnf)
 ·have h5 := of_decide_eq_true h5
  have eg : nextP R l.gen a = none := by
   unfold nextP
   rw [if_pos (by omega)]
  rw [eg]
  exact ⟨⟨_, rfl⟩, rfl, .refl _⟩
 have h5 := of_decide_eq_false h5
 have h9 : a + 9 ≤ hs := by omega
 refine ⟨⟨_, Tryz.func206, rfl, by kernel_rfl⟩, CallS.use (hrd a 9 (by omega) (by decide) H2) [0, 1, 2, 3] rfl rfl ⟨rfl, rfl, rfl, rfl, trivial⟩ ?_⟩
 rintro e H3 G' hle3 ⟨⟨A, n, cap, rfl, hs3⟩, rfl⟩
 rw [hrh a 9 h9] at hs3
 have hn : n = 9 := by rw [hs3.len, List.length_take, List.length_drop]; omega
 subst hn
 (conv => whnf)
 refine ⟨⟨_, Tryz.func207, rfl, by kernel_rfl⟩, CallS.use (number_ A 9 cap _ H3 hs3 (by decide)) [] rfl rfl trivial ?_⟩
 rintro e H4 G' hle4 ⟨rfl, rfl, rfl⟩
 (conv => whnf)
 have e4 : ((R.drop a).take 9).take 4 = (R.drop a).take 4 := by rw [List.take_take]; rfl
 have e8 : (((R.drop a).take 9).drop 4).take (8 - 4) = (R.drop (a + 4)).take 4 := by rw [List.drop_take, List.take_take, List.drop_drop]; rfl
 rw [e4]
 have hlt := num4_lt (l := (R.drop a).take 4) (by rw [List.length_take, List.length_drop]; omega)
 have hb8 : byteN ((R.drop a).take 9) 8 = byteN R (a + 8) := by
  rw [byteN_take (by decide)]
  unfold byteN
  rw [List.getD_eq_getElem?_getD, List.getD_eq_getElem?_getD, List.getElem?_drop]
 generalize hN : num4 ((R.drop a).take 4) = N at hlt ⊢
 have hno : (N < 1 ∨ N > 65536 ∨ a + 9 + N > hs ∨ R[a + 8]? ≠ some 1) → nextP R l.gen a = none := fun h => by
  unfold nextP
  rw [if_neg (by omega), hN, hRl, if_pos h]
 refine br.of (fun h6 => ?_) (fun h6 => ?_) <;> (conv => whnf)
 ·have h6 := of_decide_eq_true h6
  rw [hno (.inl (by omega))]
  exact ⟨⟨_, rfl⟩, rfl, hle3⟩
 have h6 := of_decide_eq_false h6
 refine br.of (fun h7 => ?_) (fun h7 => ?_) <;> (conv => whnf)
 ·have h7 := of_decide_eq_true h7
  rw [hno (.inr (.inl (by omega)))]
  exact ⟨⟨_, rfl⟩, rfl, hle3⟩
 have h7 := of_decide_eq_false h7
 rw [wrap64 (x := (a : Int) + 9) (by omega) (by omega), wrap64 (x := (a : Int) + 9 + N) (by omega) (by omega)]
 refine ⟨⟨_, Tryz.func216, rfl, by kernel_rfl⟩, CallS.use (hsz H4) [0, 1, 2, 3] rfl rfl ⟨rfl, rfl, rfl, rfl, trivial⟩ ?_⟩
 rintro e H5 G' hle5 ⟨rfl, rfl, rfl⟩
 (conv => whnf)
 refine br.of (fun h8 => ?_) (fun h8 => ?_) <;> (conv => whnf)
 ·have h8 := of_decide_eq_true h8
  rw [hno (.inr (.inr (.inl (by omega))))]
  exact ⟨⟨_, rfl⟩, rfl, hle3⟩
 have h8 := of_decide_eq_false h8
 refine ⟨⟨by decide, by decide⟩, hs3.addr (by decide), ?_⟩
 (conv => whnf)
 refine ⟨_, hs3.get (i := 8) (by decide) rfl, ?_⟩
 (conv => whnf)
 rw [hb8]
 cases hb : ((byteN R (a + 8) : Nat) : Int) != 1
 ·have hm : R[a + 8]? = some 1 := by
   rw [get_some (by omega)]
   have h3 : ((byteN R (a + 8) : Nat) : Int) = 1 := by simpa using hb
   show byteN R (a + 8) = 1
   omega
  (conv => whnf)
  rw [wrap64 (x := (a : Int) + 9) (by omega) (by omega)]
  refine ⟨⟨_, Tryz.func206, rfl, by kernel_rfl⟩, CallS.use (hrd (a + 9) N (by omega) (by omega) H5) [0, 1, 2, 3] rfl rfl ⟨rfl, rfl, rfl, rfl, trivial⟩ ?_⟩
  rintro e H6 G' hle6 ⟨⟨A6, n6, c6, rfl, hs6⟩, rfl⟩
  rw [hrh (a + 9) N (by omega)] at hs6
  have hbl : ((R.drop (a + 9)).take N).length = N := by rw [List.length_take, List.length_drop]; omega
  obtain rfl : n6 = N := by rw [hs6.len, hbl]
  (conv => whnf)
  refine WS.draw tab mixed (.take 0 (.take 1 (.take 2 (.take 3 (.take 4 (.take 5 (.take 6 (.take 8 (.take 9 (.alt 7 (.alt 10 (.take 11 (.take 12 .done)) .no) .no)))))))))) (by kernel_rfl) [] ?_
  (conv => whnf)
  have hroom := hs3.room
  have hs3' := hs3.mono hle6
  refine ⟨⟨by decide, by decide, by omega⟩, ?_⟩
  (conv => whnf)
  refine And.intro ?_ trivial
  (conv => whnf)
  refine ⟨⟨_, Tryz.func221, rfl, by kernel_rfl⟩, CallS.use (sum_ l.gen a hg (by omega) A6 n6 c6 _ H6 hs6 (by omega)) [] rfl rfl trivial ?_⟩
  rintro e H7 G' hle7 ⟨⟨A7, n7, c7, rfl, hs7⟩, rfl⟩
  (conv => whnf)
  refine ⟨⟨rfl, rfl, rfl, rfl, trivial⟩, ?_⟩
  (conv => whnf)
  refine And.intro ?_ trivial
  (conv => whnf)
  have hp := (hs3'.mono hle7).piece (l := 4) (u := 8) (by decide) (by decide)
  rw [e8] at hp
  refine ⟨⟨_, Tryz.func323, rfl, by kernel_rfl⟩, CallS.use (equal_ A7 _ n7 _ c7 _ _ _ H7 hs7 hp (by rw [hs7.len]; unfold sumP; rw [be4_len]; decide)) [] rfl rfl trivial ?_⟩
  rintro e H8 G' hle8 ⟨rfl, rfl, rfl⟩
  (conv => whnf)
  refine ⟨⟨rfl, rfl, rfl, rfl, trivial⟩, ?_⟩
  (conv => whnf)
  have hnx : nextP R l.gen a = if sumP l.gen a ((R.drop (a + 9)).take n6) = (R.drop (a + 4)).take 4 then some ((R.drop (a + 9)).take n6) else none := by
   unfold nextP
   rw [if_neg (by omega), hN, hRl, if_neg (fun h => by
    rcases h with h | h | h | h
    ·omega
    ·omega
    ·omega
    ·exact h hm)]
  rw [hnx]
  by_cases hq : sumP l.gen a ((R.drop (a + 9)).take n6) = (R.drop (a + 4)).take 4
  ·rw [if_pos hq, decide_eq_true hq]
   exact ⟨⟨A6, n6, c6, rfl, hs6.mono hle7⟩, rfl, (hle3.trans hle6).trans hle7⟩
  ·rw [if_neg hq, decide_eq_false hq]
   exact ⟨⟨_, rfl⟩, rfl, (hle3.trans hle6).trans hle7⟩
 ·have hm : ¬ R[a + 8]? = some 1 := by
   rw [get_some (by omega)]
   intro h
   have h : byteN R (a + 8) = 1 := h
   rw [h] at hb
   simp at hb
  (conv => whnf)
  rw [hno (.inr (.inr (.inr hm)))]
  exact ⟨⟨_, rfl⟩, rfl, hle3⟩
end Go.Kx.Wa
namespace Go.Kx.Wa
open Go.Proofs Go.Kx Go.RowKit Go.Kx.Wl Go.Kx.Dk Go.Kx.Cr
set_option maxRecDepth 20000
set_option linter.unusedSimpArgs false
def logBk (k : Nat) (l : Lg) : SB := .box 216 [.ptr 1 0, .val (.int .i64 l.half), .val (.int .i64 l.gen), .val (.int .i64 l.fin), .self k, .val (.bool l.dead)]
def logH (d : Dk) (l : Lg) : List SB := [dataB d, diskB d, logBk 4 l, .dead, recsB l]
def RecsAt (H : Hp) (xs : List Value) (rs : List (List UInt8)) : Prop := All2 (fun v b => ∃ A n c, v = .slice A n c ∧ SlAt H A n c b) xs rs
theorem RecsAt.mono {H H' : Hp} {xs : List Value} {rs : List (List UInt8)} (h : RecsAt H xs rs) (hle : H.Le H') : RecsAt H' xs rs :=
 All2.mono (fun _ _ ⟨A, n, c, h1, h2⟩ => ⟨A, n, c, h1, h2.mono hle⟩) h
theorem next_some {R b : List UInt8} {g a : Nat} (h : nextP R g a = some b) : 1 ≤ b.length ∧ b.length ≤ 65536 ∧ a + 9 + b.length ≤ R.length := by
 unfold nextP at h
 split at h
 ·cases h
 ·split at h
  ·cases h
  ·rename_i h1 h2
   split at h
   ·injection h with h
    have hl : b.length = num4 ((R.drop a).take 4) := by
     rw [← h, List.length_take, List.length_drop]
     omega
    omega
   ·cases h
theorem costs_snoc (rs : List (List UInt8)) (b : List UInt8) : costs (rs ++ [b]) = costs rs + 9 + b.length := by unfold costs; simp; omega
theorem scan_ (d : Dk) (l : Lg) (h1 : 1024 ≤ d.bs.length) (hl : d.bs.length ≤ 1048576) (hh : l.half ≤ 1) (hg : l.gen < 4294967296) (hd : d.down = false) (H : Hp) :
  CallO Tryz.prog 210 [lP] H (logG d l) fun e H' G' => e = .ret (.tu []) ∧ H.Le H' ∧ ∃ xs, RecsAt H' xs (scanP (halfOf d.bs (d.bs.length / 2) l.half) l.gen (d.bs.length / 2 + 1) 16) ∧
   G' = logH d { l with fin := 16 + costs (scanP (halfOf d.bs (d.bs.length / 2) l.half) l.gen (d.bs.length / 2 + 1) 16), nr := (scanP (halfOf d.bs (d.bs.length / 2) l.half) l.gen (d.bs.length / 2 + 1) 16).length, xs := xs } := by
 have hRl := half_len (D := d.bs) hh
 have hnx : ∀ (l' : Lg), l'.half = l.half → l'.gen = l.gen → ∀ a, a ≤ 1048576 → ∀ H, CallO Tryz.prog 280 [lP, iV a] H (logG d l') fun e H' G' => RNext (nextP (halfOf d.bs (d.bs.length / 2) l.half) l.gen a) e H' ∧ G' = logG d l' ∧ H.Le H' := fun l' e1 e2 a ha H => by
  rw [← e1, ← e2]
  exact next_ d l' hl (by omega) (by omega) hd a ha H
 have hpos : 512 ≤ d.bs.length / 2 := by omega
 have hmax : d.bs.length / 2 ≤ 524288 := by omega
 have h : CallO Tryz.prog 210 [lP] H (logG d l) fun e H' G' => e = .ret (.tu []) ∧ H.Le H' ∧ ∃ xs, RecsAt H' xs (scanP (halfOf d.bs (d.bs.length / 2) l.half) l.gen (d.bs.length / 2 + 1) 16) ∧
   ∃ x y, G' = dataB d :: diskB d :: logBk 4 { l with fin := 16 + costs (scanP (halfOf d.bs (d.bs.length / 2) l.half) l.gen (d.bs.length / 2 + 1) 16), nr := (scanP (halfOf d.bs (d.bs.length / 2) l.half) l.gen (d.bs.length / 2 + 1) 16).length, xs := xs } :: x :: .row 94 1 (scanP (halfOf d.bs (d.bs.length / 2) l.half) l.gen (d.bs.length / 2 + 1) 16).length xs :: y := by
  generalize hhs : d.bs.length / 2 = hs at *
  generalize hR : halfOf d.bs hs l.half = R at hRl ⊢
  obtain ⟨half, gen, fin, dead, nr, xs0⟩ := l
  dsimp only at *
  refine CallO.of_bodyW tab Tryz.func210 rfl (nt := Tryz.f210.ntmps) rfl (by kernel_rfl) ?_
  refine (codeL.cutTo tab 1 (fun F H' G => H' = H ∧ F = [(0, lP)] ∧ G = [dataB d, diskB d, .box 216 [.ptr 1 0, .val (.int .i64 half), .val (.int .i64 gen), .val (.int .i64 16), .val (.slice none 0 0), .val (.bool dead)], .row 94 1 nr xs0]) ?_ ?_).to
  ·(conv => whnf)
   exact ⟨_, _, [0, 1, 2, 3], ⟨rfl, rfl, rfl⟩, rfl, ⟨rfl, rfl, rfl, rfl, trivial⟩, rfl, trivial⟩
  rintro F H1 G _ ⟨rfl, rfl, rfl⟩
  refine codeL.nilCell 2 4 94 1 rfl rfl ?_
  refine codeL.go tab ?_
  (conv => whnf)
  refine WS.loop (fun k' F H4 G => ∃ (rs : List (List UInt8)) (xs : List Value), RecsAt H4 xs rs ∧ 10 * rs.length ≤ costs rs ∧ 16 + costs rs ≤ hs ∧ scanP R gen (hs + 1) 16 = rs ++ scanP R gen (hs + 1 - rs.length) (16 + costs rs) ∧ k' = hs + 1 - rs.length ∧ F = [(0, lP)] ∧ H1.Le H4 ∧ ∃ x, G = [dataB d, diskB d, logBk 4 ⟨half, gen, 16 + costs rs, dead, 0, []⟩, x, .row 94 1 rs.length xs]) (hs + 2) ?_ ?_
  ·refine ⟨hs + 1, by omega, _, _, [0, 1, 2, 3, 4], ⟨[], [], .nil, by decide, by show 16 + 0 ≤ hs; omega, rfl, rfl, rfl, .refl _, .row 94 1 nr xs0, rfl⟩, ?_⟩
   exact ⟨rfl, ⟨rfl, rfl, rfl, rfl, rfl, trivial⟩, rfl, trivial⟩
  rintro k' F H4 G hle4 ⟨rs, xs, hrs, h10, hfin, hsc, rfl, rfl, hle, x, rfl⟩
  refine codeL.go tab ?_
  (conv => whnf)
  refine ⟨⟨_, Tryz.func280, rfl, by kernel_rfl⟩, CallS.use (hnx ⟨half, gen, 16 + costs rs, dead, rs.length, xs⟩ rfl rfl (16 + costs rs) (by omega) H4) [0, 1, 2, 4] rfl rfl ⟨rfl, rfl, rfl, rfl, trivial⟩ ?_⟩
  rintro e H5 G' hle5 ⟨hr, rfl, hle5'⟩
  rw [hR] at hr
  have hlen : rs.length ≤ hs := by omega
  cases hN : nextP R gen (16 + costs rs) with
  | none =>
   rw [hN] at hr
   obtain ⟨v, rfl⟩ := hr
   (conv => whnf)
   have hsc2 : scanP R gen (hs + 1) 16 = rs := by
    rw [hsc]
    obtain ⟨f, hf⟩ : ∃ f, hs + 1 - rs.length = f + 1 := ⟨hs - rs.length, by omega⟩
    rw [hf]
    unfold scanP
    rw [hN]
    simp
   rw [hsc2]
   exact ⟨rfl, hle.trans hle5, xs, hrs.mono hle5, _, _, rfl⟩
  | some b =>
   rw [hN] at hr
   obtain ⟨A, n, c, rfl, hsl⟩ := hr
   obtain ⟨b1, b2, b3⟩ := next_some hN
   have hbl := hsl.len
   (conv => whnf)
   refine ⟨by decide, .inl ?_⟩
   intro g H6 hle6 hrd
   (conv => whnf)
   refine ⟨[.slice A n c], rfl, hrd, fun u hu => by simp at hu; subst hu; rfl, ?_⟩
   (conv => whnf)
   refine ⟨by show (rs.length + 1) * 25 ≤ 140737488355328; omega, ?_⟩
   (conv => whnf)
   have hcs := costs_snoc rs b
   have e1 : IntKind.i64.wrap ((16 + costs rs : Nat) + IntKind.i64.wrap (9 + n)) = ((16 + costs (rs ++ [b]) : Nat) : Int) := by
    rw [wrap64 (x := 9 + (n : Int)) (by omega) (by omega), wrap64 (by omega) (by omega)]
    omega
   refine ⟨hs + 1 - (rs ++ [b]).length, by rw [List.length_append]; simp; omega, _, [dataB d, diskB d, logBk 4 ⟨half, gen, 16 + costs (rs ++ [b]), dead, 0, []⟩, .dead, .row 94 1 (rs ++ [b]).length (xs ++ [.slice A n c])], [0, 1, 2, 3, 5], ⟨rs ++ [b], xs ++ [.slice A n c], ?_, ?_, ?_, ?_, rfl, rfl, hle.trans (hle5.trans hle6), .dead, rfl⟩, ?_⟩
   ·exact (hrs.mono (hle5.trans hle6)).append (.cons ⟨A, n, c, rfl, hsl.mono hle6⟩ .nil)
   ·rw [List.length_append, hcs]; simp; omega
   ·rw [hcs]; omega
   ·rw [hsc]
    obtain ⟨f, hf⟩ : ∃ f, hs + 1 - rs.length = f + 1 := ⟨hs - rs.length, by omega⟩
    have hf2 : hs + 1 - (rs ++ [b]).length = f := by rw [List.length_append]; simp; omega
    rw [hf, hf2, hcs]
    conv => lhs; unfold scanP
    rw [hN]
    simp only [List.append_assoc, List.cons_append, List.nil_append]
    congr 3
    omega
   ·refine ⟨rfl, ⟨rfl, rfl, ?_, trivial, ?_, trivial⟩, rfl, trivial⟩
    ·have hlog : logBk 4 ⟨half, gen, 16 + costs (rs ++ [b]), dead, 0, []⟩ = .box 216 [.ptr 1 0, .val (.int .i64 half), .val (.int .i64 gen), .val (.int .i64 (IntKind.i64.wrap ((16 + costs rs : Nat) + IntKind.i64.wrap (9 + n)))), .self 4, .val (.bool dead)] := by unfold logBk; rw [e1]
     rw [hlog]
     exact rfl
    ·rw [List.length_append]
     exact rfl
 refine CallO.sub h ?_
 rintro e H' G' hle ⟨rfl, hle', xs, hr, x, y, rfl⟩
 exact ⟨.tu [], logH d { l with fin := 16 + costs (scanP (halfOf d.bs (d.bs.length / 2) l.half) l.gen (d.bs.length / 2 + 1) 16), nr := (scanP (halfOf d.bs (d.bs.length / 2) l.half) l.gen (d.bs.length / 2 + 1) 16).length, xs := xs }, [0, 1, 2, 3, 4], rfl, ⟨rfl, rfl, rfl, trivial, rfl, trivial⟩, rfl, rfl, hle', xs, hr, rfl⟩
end Go.Kx.Wa
namespace Go.Kx.Wa
open Go.Proofs Go.Kx Go.RowKit Go.Kx.Wl Go.Kx.Dk Go.Kx.Cr
set_option maxRecDepth 20000
set_option linter.unusedSimpArgs false
structure Fine (d : Dk) : Prop where
 up : d.down = false
 cold : d.lit = false
 least : 1024 ≤ d.bs.length
 most : d.bs.length ≤ 1048576
def Dk.put (d : Dk) (D : List UInt8) (wr : Int) : Dk := ⟨D, d.down, d.lit, d.fw, d.fb, wr⟩
theorem Fine.put {d : Dk} (h : Fine d) {D : List UInt8} (hD : D.length = d.bs.length) (wr : Int) : Fine (Dk.put d D wr) := ⟨h.up, h.cold, by show 1024 ≤ D.length; rw [hD]; exact h.least, by show D.length ≤ _; rw [hD]; exact h.most⟩
theorem lw_fine {d : Dk} (h : Fine d) (a : Nat) (b : List UInt8) : lwP d false a b = (Dk.put d (ow d.bs a b) d.wr, false) := by
 unfold lwP wrP
 rw [if_neg (by decide), if_neg (by rw [h.up]; decide), if_pos h.cold]
 rfl
theorem writeF (d : Dk) (l : Lg) (hd : Fine d) (hl : l.dead = false) (h a : Nat) (A : Option Addr) (n cap : Nat) (b : List UInt8) (hh : h ≤ 1) (hn : a + n ≤ d.bs.length / 2) (h0 : 0 < n) (H : Hp) (hb : SlAt H A n cap b) :
  CallO Tryz.prog 160 [lP, iV h, iV a, pv (.slice A n cap)] H (logG d l) fun e H' G' => e = .ret (pv (.bool true)) ∧ H' = H ∧ ∃ wr, G' = logG (Dk.put d (ow d.bs (h * (d.bs.length / 2) + a) b) wr) l := by
 have he := half_end (D := d.bs) hh
 have hw := write_ d l hd.most h a A n cap b hh (by omega) h0 (fun h2 => by rw [hd.cold] at h2; cases h2) H hb
 rw [hl, lw_fine hd] at hw
 refine CallO.mono hw ?_
 rintro e H' G' hle ⟨rfl, rfl, wr, rfl⟩
 refine ⟨rfl, rfl, wr, ?_⟩
 obtain ⟨half, gen, fin, dead, nr, xs⟩ := l
 obtain rfl : dead = false := hl
 rfl
theorem writeR (d : Dk) (l : Lg) (hd : Fine d) (hl : l.dead = false) (h a : Nat) (b : List UInt8) (hh : h ≤ 1) (hn : a + b.length ≤ d.bs.length / 2) (h0 : 0 < b.length) (H : Hp) :
  CallO Tryz.prog 160 [lP, iV h, iV a, .si (.ce (.self 4))] H (logG d l ++ [.row 5 1 b.length (bCells b)]) fun e _ G' => e = .ret (pv (.bool true)) ∧ ∃ wr, G' = logG (Dk.put d (ow d.bs (h * (d.bs.length / 2) + a) b) wr) l ++ [.dead] := by
 refine CallO.eat 4 rfl (fun h1 => by omega) fun x H2 hle hfr => ?_
 obtain ⟨A, cap, rfl, hb⟩ := SlAt.of_frozen rfl hfr
 show CallO Tryz.prog 160 [lP, iV h, iV a, pv (.slice A b.length cap)] H2 [dataB d, diskB d, logB l, recsB l, .dead] _
 refine CallS.to ?_
 refine CallS.use (writeF d l hd hl h a A b.length cap b hh hn h0 H2 hb) [0, 1, 2, 3] rfl rfl ⟨rfl, rfl, rfl, rfl, trivial⟩ ?_
 rintro e H3 G' hle3 ⟨rfl, rfl, wr, rfl⟩
 (conv => whnf)
 exact ⟨rfl, wr, rfl⟩
theorem clr_len {D : List UInt8} {h a : Nat} (hh : h ≤ 1) (ha : a ≤ D.length / 2) : (clrB D (D.length / 2) h a).length = D.length := by
 have he := half_end (D := D) hh
 unfold clrB
 split
 ·exact ow_len (by rw [List.length_replicate]; omega)
 ·rfl
theorem clear_ (d : Dk) (l : Lg) (hd : Fine d) (hl : l.dead = false) (h a : Nat) (hh : h ≤ 1) (ha : a < d.bs.length / 2) (H : Hp) :
  CallO Tryz.prog 164 [lP, iV h, iV a] H (logG d l) fun e H' G' => e = .ret (pv (.bool true)) ∧ H.Le H' ∧ ∃ wr, G' = logG (Dk.put d (clrB d.bs (d.bs.length / 2) h a) wr) l := by
 have he := half_end (D := d.bs) hh
 have hmost := hd.most
 have hrd := fun H => read_ d l hd.most h a (d.bs.length / 2 - a) hh (by omega) (by omega) hd.up H
 have hRl := half_len (D := d.bs) hh
 have hw := fun H => writeR d l hd hl h a (List.replicate (d.bs.length / 2 - a) 0) hh (by rw [List.length_replicate]; omega) (by rw [List.length_replicate]; omega) H
 rw [List.length_replicate] at hw
 rw [read_half (by omega)] at hrd
 have hsz := size_ d l hd.most
 unfold clrB
 generalize hhs : d.bs.length / 2 = hs at *
 generalize halfOf d.bs hs h = R at *
 have htk : (R.drop a).take (hs - a) = R.drop a := List.take_of_length_le (by rw [List.length_drop]; omega)
 rw [htk] at hrd
 refine CallO.of_body tab Tryz.func164 rfl (nt := Tryz.f164.ntmps) rfl (by kernel_rfl) ?_
 (conv => whnf)
 refine ⟨⟨_, Tryz.func216, rfl, by kernel_rfl⟩, CallS.use (hsz H) [0, 1, 2, 3] rfl rfl ⟨rfl, rfl, rfl, rfl, trivial⟩ ?_⟩
 rintro e H2 G' hle2 ⟨rfl, rfl, rfl⟩
 (conv => whnf)
 have e1 : IntKind.i64.wrap ((hs : Int) - a) = ((hs - a : Nat) : Int) := by rw [wrap64 (by omega) (by omega)]; omega
 rw [e1]
 refine ⟨⟨_, Tryz.func206, rfl, by kernel_rfl⟩, CallS.use (hrd H2) [0, 1, 2, 3] rfl rfl ⟨rfl, rfl, rfl, rfl, trivial⟩ ?_⟩
 rintro e H3 G' hle3 ⟨⟨A, n, cap, rfl, hs3⟩, rfl⟩
 have hn : n = hs - a := by rw [hs3.len, List.length_drop]; omega
 subst hn
 (conv => whnf)
 refine ⟨⟨_, Tryz.func222, rfl, by kernel_rfl⟩, CallS.use (contains_ A _ cap _ H3 hs3 (by omega)) [] rfl rfl trivial ?_⟩
 rintro e H4 G' hle4 ⟨rfl, rfl, rfl⟩
 (conv => whnf)
 cases hb : (R.drop a).any (fun c => decide (c ≠ 0))
 ·(conv => whnf)
  obtain ⟨half, gen, fin, dead, nr, xs⟩ := l
  obtain rfl : dead = false := hl
  exact ⟨rfl, hle3, d.wr, rfl⟩
 ·(conv => whnf)
  refine ⟨⟨by omega, by omega, by show ((1 : Nat) : Int) * _ ≤ 281474976710656; omega, by omega⟩, ?_⟩
  (conv => whnf)
  rw [show (List.replicate (Int.toNat ((hs - a : Nat) : Int)) (List.map Z.val [Z.i .u8])).flatten = bCells (List.replicate (hs - a) 0) from zero_cells _]
  refine ⟨⟨_, Tryz.func160, rfl, by kernel_rfl⟩, CallS.use (hw H4) [0, 1, 2, 3, 4] rfl rfl ⟨rfl, rfl, rfl, rfl, rfl, trivial⟩ ?_⟩
  rintro e H5 G' hle5 ⟨rfl, wr, rfl⟩
  (conv => whnf)
  exact ⟨rfl, hle3.trans hle5, wr, rfl⟩
def crown0 (g : Nat) : List UInt8 := be4 g ++ be4 (crcP (be4 g)) ++ [0, 0, 0, 0, 0, 0, 0, 0]
theorem crown_ (d : Dk) (l : Lg) (hd : Fine d) (hl : l.dead = false) (h g : Nat) (hh : h ≤ 1) (hg : g < 4294967296) (H : Hp) :
  CallO Tryz.prog 165 [lP, iV h, iV g] H (logG d l) fun e H' G' => e = .ret (pv (.bool true)) ∧ H.Le H' ∧ ∃ wr, G' = logG (Dk.put d (crownB d.bs (d.bs.length / 2) h g) wr) l := by
 have he := half_end (D := d.bs) hh
 have hmost := hd.most
 have hleast := hd.least
 have hw1 := fun H => writeR d l hd hl h 0 (crown0 g) hh (by show 0 + 16 ≤ _; omega) (by show 0 < 16; decide) H
 have l1 : (ow d.bs (h * (d.bs.length / 2) + 0) (crown0 g)).length = d.bs.length := ow_len (by show _ + 16 ≤ _; omega)
 have hw2 := fun wr A n cap b h1 h2 H hb => writeF (Dk.put d (ow d.bs (h * (d.bs.length / 2) + 0) (crown0 g)) wr) l (hd.put l1 wr) hl h 8 A n cap b hh h1 h2 H hb
 obtain ⟨half, gen, fin, dead, nr, xs⟩ := l
 obtain rfl : dead = false := hl
 refine CallO.of_body tab Tryz.func165 rfl (nt := Tryz.f165.ntmps) rfl (by kernel_rfl) ?_
 (conv => whnf)
 refine ⟨⟨by decide, by decide, by decide, by decide⟩, ?_⟩
 (conv => whnf)
 refine ⟨⟨_, Tryz.func220, rfl, by kernel_rfl⟩, CallS.use (bytes_ g hg H) [] rfl rfl trivial ?_⟩
 rintro e H2 G' hle2 ⟨⟨A1, n1, c1, rfl, h1⟩, rfl⟩
 (conv => whnf)
 refine ⟨⟨_, Tryz.func220, rfl, by kernel_rfl⟩, CallS.use (bytes_ g hg H2) [] rfl rfl trivial ?_⟩
 rintro e H3 G' hle3 ⟨⟨A2, n2, c2, rfl, h2⟩, rfl⟩
 (conv => whnf)
 refine ⟨by decide, .inl ?_⟩
 intro g1 H4 hle4 hrd1
 (conv => whnf)
 have hp1 : PartsAt H4 (some ⟨g1, 0, none⟩) 1 [be4 g] := parts1 (h2.mono hle4) (by rw [be4_len]; decide) hrd1
 refine ⟨⟨_, Tryz.func209, rfl, by kernel_rfl⟩, CallS.use (sums_ _ 1 1 _ H4 hp1 (by decide)) [] rfl rfl trivial ?_⟩
 rintro e H5 G' hle5 ⟨rfl, rfl, rfl⟩
 (conv => whnf)
 refine ⟨⟨_, Tryz.func224, rfl, by kernel_rfl⟩, CallS.use (put_ _ H5) [] rfl rfl trivial ?_⟩
 rintro e H6 G' hle6 ⟨⟨A6, n6, c6, rfl, h6⟩, rfl⟩
 have ef : [be4 g].flatten = be4 g := by simp
 rw [ef] at h6
 (conv => whnf)
 refine ⟨by decide, .inl ?_⟩
 intro g2 H7 hle7 hrd2
 (conv => whnf)
 have hp2 : PartsAt H7 (some ⟨g2, 0, none⟩) 2 [be4 g, be4 (crcP (be4 g))] := parts2 (h1.mono (((hle3.trans hle4).trans hle6).trans hle7)) (by rw [be4_len]; decide) (h6.mono hle7) (by rw [be4_len]; decide) hrd2
 refine ⟨⟨_, Tryz.func219, rfl, by kernel_rfl⟩, CallS.use (concat_ _ 2 2 _ H7 hp2 (by decide) (by unfold lensOf; simp [be4_len]) (by unfold lensOf; simp [be4_len])) [] rfl rfl trivial ?_⟩
 rintro e H8 G' hle8 ⟨⟨A8, n8, c8, rfl, h8⟩, rfl⟩
 have ef2 : [be4 g, be4 (crcP (be4 g))].flatten = be4 g ++ be4 (crcP (be4 g)) := by simp
 rw [ef2] at h8
 have hn8 : n8 = 8 := h8.len
 subst hn8
 obtain ⟨b8, o8, rfl, hr8⟩ := h8.at_ (by decide)
 (conv => whnf)
 refine ⟨bCells (be4 g ++ be4 (crcP (be4 g))), rfl, hr8, bCells_one _, ⟨by decide, by decide⟩, ?_⟩
 (conv => whnf)
 have esp : SB.row 5 1 16 (splice (List.replicate 16 (List.map Z.val [Z.i .u8])).flatten 0 (bCells (be4 g ++ be4 (crcP (be4 g))))) = .row 5 1 (crown0 g).length (bCells (crown0 g)) := rfl
 refine ⟨⟨_, Tryz.func160, rfl, by kernel_rfl⟩, CallS.use (hw1 H8) [0, 1, 2, 3, 4] rfl rfl ⟨rfl, rfl, rfl, rfl, esp, trivial⟩ ?_⟩
 rintro e H9 G' hle9 ⟨rfl, wr, rfl⟩
 (conv => whnf)
 refine ⟨by decide, .inl ?_⟩
 intro g3 H10 hle10 hrd3
 (conv => whnf)
 have h10 : SlAt H10 (some ⟨g3, 0, none⟩) 1 1 [1] := ⟨rfl, Nat.le_refl _, .inr ⟨g3, 0, rfl, hrd3⟩⟩
 have hw3 := hw2 wr (some ⟨g3, 0, none⟩) 1 1 [1] (by show _ ≤ (ow _ _ _).length / 2; rw [l1]; omega) (by decide) H10 h10
 have el : (Dk.put d (ow d.bs (h * (d.bs.length / 2) + 0) (crown0 g)) wr).bs.length = d.bs.length := l1
 rw [el] at hw3
 refine ⟨⟨_, Tryz.func160, rfl, by kernel_rfl⟩, CallS.use hw3 [0, 1, 2, 3] rfl rfl ⟨rfl, rfl, rfl, rfl, trivial⟩ ?_⟩
 rintro e H11 G' hle11 ⟨rfl, rfl, wr2, rfl⟩
 (conv => whnf)
 exact ⟨rfl, ((((((hle2.trans hle3).trans hle4).trans hle6).trans hle7).trans hle8).trans hle9).trans hle10, wr2, rfl⟩
end Go.Kx.Wa
namespace Go.Kx.Wa
open Go.Proofs Go.Kx Go.RowKit Go.Kx.Wl Go.Kx.Dk Go.Kx.Cr
set_option maxRecDepth 20000
set_option linter.unusedSimpArgs false
theorem clr_same {D : List UInt8} {h a : Nat} (hh : h ≤ 1) (ha : a ≤ D.length / 2) : (clrB D (D.length / 2) h a).length / 2 = D.length / 2 := by rw [clr_len hh ha]
theorem fresh_ (d : Dk) (l : Lg) (hd : Fine d) (hl : l.dead = false) (H : Hp) :
  CallO Tryz.prog 145 [lP] H (logG d l) fun e H' G' => e = .ret (pv (.bool true)) ∧ H.Le H' ∧ ∃ wr, G' = logG (Dk.put d (crownB (clrB d.bs (d.bs.length / 2) 0 0) (d.bs.length / 2) 0 1) wr) { l with half := 0, gen := 1, fin := 16 } := by
 have hleast := hd.least
 obtain ⟨half, gen, fin, dead, nr, xs⟩ := l
 obtain rfl : dead = false := hl
 have l1 := clr_len (D := d.bs) (h := 0) (a := 0) (by decide) (by omega)
 refine CallO.of_body tab Tryz.func145 rfl (nt := Tryz.f145.ntmps) rfl (by kernel_rfl) ?_
 (conv => whnf)
 refine ⟨⟨_, Tryz.func164, rfl, by kernel_rfl⟩, CallS.use (clear_ d ⟨0, 1, 16, false, nr, xs⟩ hd rfl 0 0 (by decide) (by omega) H) [0, 1, 2, 3] rfl rfl ⟨rfl, rfl, rfl, rfl, trivial⟩ ?_⟩
 rintro e H2 G' hle2 ⟨rfl, hle2', wr, rfl⟩
 (conv => whnf)
 have hc := crown_ (Dk.put d (clrB d.bs (d.bs.length / 2) 0 0) wr) ⟨0, 1, 16, false, nr, xs⟩ (hd.put l1 wr) rfl 0 1 (by decide) (by decide) H2
 have e1 : (Dk.put d (clrB d.bs (d.bs.length / 2) 0 0) wr).bs.length / 2 = d.bs.length / 2 := by show (clrB _ _ _ _).length / 2 = _; rw [l1]
 rw [e1] at hc
 refine ⟨⟨_, Tryz.func165, rfl, by kernel_rfl⟩, CallS.use hc [0, 1, 2, 3] rfl rfl ⟨rfl, rfl, rfl, rfl, trivial⟩ ?_⟩
 rintro e H3 G' hle3 ⟨rfl, hle3', wr2, rfl⟩
 (conv => whnf)
 exact ⟨rfl, hle2.trans hle3, wr2, rfl⟩
theorem found0 (d : Dk) (l : Lg) (hd : Fine d) (hl : l.dead = false) (a b h g : Nat) (hh : h ≤ 1) (hg : g < 4294967296) (hab : (a < b ∧ h = 1 ∧ g = b) ∨ (¬ a < b ∧ h = 0 ∧ g = a)) (hroom : (foundP d.bs (d.bs.length / 2) h g).fin < d.bs.length / 2) (H : Hp) :
  CallO Tryz.prog 146 [lP, iV a, iV b] H (logG d l) fun e H' G' => e = .ret (pv (.bool true)) ∧ H.Le H' ∧ ∃ wr xs, RecsAt H' xs (foundP d.bs (d.bs.length / 2) h g).recs ∧
   G' = logH (Dk.put d (foundP d.bs (d.bs.length / 2) h g).bs wr) ⟨h, g, (foundP d.bs (d.bs.length / 2) h g).fin, false, (foundP d.bs (d.bs.length / 2) h g).recs.length, xs⟩ := by
 obtain ⟨half, gen, fin, dead, nr, xs⟩ := l
 obtain rfl : dead = false := hl
 have hsc := scan_ d ⟨h, g, fin, false, nr, xs⟩ hd.least hd.most hh hg hd.up
 unfold foundP at hroom ⊢
 dsimp only at hroom hsc ⊢
 generalize scanP (halfOf d.bs (d.bs.length / 2) h) g (d.bs.length / 2 + 1) 16 = rs at *
 have hcl := fun xs H => clear_ d ⟨h, g, 16 + costs rs, false, rs.length, xs⟩ hd rfl h (16 + costs rs) hh hroom H
 refine CallO.of_body tab Tryz.func146 rfl (nt := Tryz.f146.ntmps) rfl (by kernel_rfl) ?_
 (conv => whnf)
 rcases hab with ⟨hlt, rfl, rfl⟩ | ⟨hlt, rfl, rfl⟩
 ·refine br.of (fun h5 => ?_) (fun h5 => absurd (of_decide_eq_false h5) (by omega))
  (conv => whnf)
  refine ⟨⟨_, Tryz.func210, rfl, by kernel_rfl⟩, CallS.use (hsc H) [0, 1, 2, 3] rfl rfl ⟨rfl, rfl, rfl, rfl, trivial⟩ ?_⟩
  rintro e H2 G' hle2 ⟨rfl, hle2', ys, hr, rfl⟩
  (conv => whnf)
  refine WS.draw tab mixed (.take 0 (.take 1 (.take 2 (.take 3 (.take 4 (.take 5 (.take 6 (.take 7 (.take 8 (.alt 9 (.take 10 .done) .no)))))))))) (by kernel_rfl) [0, 1] ?_
  (conv => whnf)
  repeat' (first
   | exact trivial
   | exact rfl
   | exact ⟨_, Tryz.func164, rfl, by kernel_rfl⟩
   | (refine CallS.use (hcl ys H2) [0, 1, 2, 4] rfl rfl ⟨rfl, rfl, rfl, rfl, trivial⟩ ?_; rintro e H3 G' hle3 ⟨rfl, hle3', wr, rfl⟩; (conv => whnf))
   | exact ⟨rfl, hle2.trans hle3, wr, ys, hr.mono hle3, rfl⟩
   | (refine And.intro ?_ ?_ <;> (conv => whnf)))
 ·refine br.of (fun h5 => absurd (of_decide_eq_true h5) (by omega)) (fun h5 => ?_)
  (conv => whnf)
  refine ⟨⟨_, Tryz.func210, rfl, by kernel_rfl⟩, CallS.use (hsc H) [0, 1, 2, 3] rfl rfl ⟨rfl, rfl, rfl, rfl, trivial⟩ ?_⟩
  rintro e H2 G' hle2 ⟨rfl, hle2', ys, hr, rfl⟩
  (conv => whnf)
  refine WS.draw tab mixed (.take 0 (.take 1 (.take 2 (.take 3 (.take 4 (.take 5 (.take 6 (.take 7 (.take 8 (.alt 9 (.take 10 .done) .no)))))))))) (by kernel_rfl) [0, 1] ?_
  (conv => whnf)
  repeat' (first
   | exact trivial
   | exact rfl
   | exact ⟨_, Tryz.func164, rfl, by kernel_rfl⟩
   | (refine CallS.use (hcl ys H2) [0, 1, 2, 4] rfl rfl ⟨rfl, rfl, rfl, rfl, trivial⟩ ?_; rintro e H3 G' hle3 ⟨rfl, hle3', wr, rfl⟩; (conv => whnf))
   | exact ⟨rfl, hle2.trans hle3, wr, ys, hr.mono hle3, rfl⟩
   | (refine And.intro ?_ ?_ <;> (conv => whnf)))
def ROpen (d : Dk) (e : SE) (H' : Hp) (G' : List SB) : Prop :=
 e = .ret (.tu [.ce (.ptr 2 0), .ce (.val (.int .i64 0))]) ∧ ∃ wr xs, RecsAt H' xs (openP d.bs).recs ∧ G' = logG (Dk.put d (openP d.bs).bs wr) ⟨(openP d.bs).half, (openP d.bs).gen, (openP d.bs).fin, false, (openP d.bs).recs.length, xs⟩
theorem gen_lt (R : List UInt8) : genP R < 4294967296 := by
 unfold genP
 split
 ·rename_i h; omega
 ·decide
theorem open_ (d : Dk) (hd : Fine d) (hroom : (openP d.bs).fin < d.bs.length / 2) (H : Hp) :
  CallO Tryz.prog 87 [dP] H (diskG d) fun e H' G' => ROpen d e H' G' ∧ H.Le H' := by
 have hgen := fun h hh H => gen_ d ⟨0, 0, 0, false, 0, []⟩ hd.least hd.most h hh hd.up H
 have hup := up_ d
 rw [hd.up] at hup
 have hfr := fresh_ d ⟨0, 0, 0, false, 0, []⟩ hd rfl
 have hfd := fun a b h g hh hg hab hr H => found0 d ⟨0, 0, 0, false, 0, []⟩ hd rfl a b h g hh hg hab hr H
 have hg0 := gen_lt (halfOf d.bs (d.bs.length / 2) 0)
 have hg1 := gen_lt (halfOf d.bs (d.bs.length / 2) 1)
 unfold ROpen
 generalize hop : openP d.bs = O at *
 unfold openP at hop
 dsimp only at hop
 have h0 := hgen 0 (by decide)
 have h1 := hgen 1 (by decide)
 generalize genP (halfOf d.bs (d.bs.length / 2) 0) = a at *
 generalize genP (halfOf d.bs (d.bs.length / 2) 1) = b at *
 have h : CallO Tryz.prog 87 [dP] H (diskG d) fun e H' G' => H.Le H' ∧ e = .ret (.tu [.ce (.ptr 2 0), .ce (.val (.int .i64 0))]) ∧ ∃ wr xs, RecsAt H' xs O.recs ∧ (G' = logG (Dk.put d O.bs wr) ⟨O.half, O.gen, O.fin, false, O.recs.length, xs⟩ ∨ G' = logH (Dk.put d O.bs wr) ⟨O.half, O.gen, O.fin, false, O.recs.length, xs⟩) := by
  refine CallO.of_bodyW tab Tryz.func87 rfl (nt := Tryz.f87.ntmps) rfl (by kernel_rfl) ?_
  refine (codeL.cutTo tab 2 (fun F H' G => H' = H ∧ F = [(0, dP), (4, lP)] ∧ G = [dataB d, diskB d, .box 216 [.ptr 1 0, .val (.int .i64 0), .val (.int .i64 0), .val (.int .i64 0), .val (.slice none 0 0), .val (.bool false)]]) ?_ ?_).to
  ·(conv => whnf)
   exact ⟨_, _, [0, 1, 2], ⟨rfl, rfl, rfl⟩, rfl, ⟨rfl, rfl, rfl, trivial⟩, rfl, rfl, trivial⟩
  rintro F H1 G _ ⟨rfl, rfl, rfl⟩
  refine codeL.nilCell 2 4 94 1 rfl rfl ?_
  refine codeL.go tab ?_
  (conv => whnf)
  refine ⟨⟨_, Tryz.func143, rfl, by kernel_rfl⟩, CallS.use (hup H1) [0, 1] rfl rfl ⟨rfl, rfl, trivial⟩ ?_⟩
  rintro e H2 G' hle2 ⟨rfl, rfl, rfl⟩
  (conv => whnf)
  refine ⟨⟨_, Tryz.func144, rfl, by kernel_rfl⟩, CallS.use (h0 H2) [0, 1, 2, 3] rfl rfl ⟨rfl, rfl, rfl, rfl, trivial⟩ ?_⟩
  rintro e H3 G' hle3 ⟨rfl, rfl, hle3'⟩
  (conv => whnf)
  refine ⟨⟨_, Tryz.func144, rfl, by kernel_rfl⟩, CallS.use (h1 H3) [0, 1, 2, 3] rfl rfl ⟨rfl, rfl, rfl, rfl, trivial⟩ ?_⟩
  rintro e H4 G' hle4 ⟨rfl, rfl, hle4'⟩
  (conv => whnf)
  have hz : ∀ n : Nat, n ≠ 0 → (((n : Nat) : Int) == 0) = false := fun n hn => by simp; omega
  have found : ¬ (a = 0 ∧ b = 0) → ∃ h g, h ≤ 1 ∧ g < 4294967296 ∧ ((a < b ∧ h = 1 ∧ g = b) ∨ (¬ a < b ∧ h = 0 ∧ g = a)) ∧ O = foundP d.bs (d.bs.length / 2) h g := fun hab => by
   rw [if_neg hab] at hop
   by_cases hlt : a < b
   ·rw [if_pos hlt] at hop; exact ⟨1, b, by decide, hg1, .inl ⟨hlt, rfl, rfl⟩, hop.symm⟩
   ·rw [if_neg hlt] at hop; exact ⟨0, a, by decide, hg0, .inr ⟨hlt, rfl, rfl⟩, hop.symm⟩
  have hO : ∀ h g, O = foundP d.bs (d.bs.length / 2) h g → O.half = h ∧ O.gen = g := fun h g e => by rw [e]; exact ⟨rfl, rfl⟩
  by_cases ha : a = 0
  ·subst ha
   by_cases hb : b = 0
   ·subst hb
    rw [if_pos ⟨rfl, rfl⟩] at hop
    subst hop
    (conv => whnf)
    refine ⟨⟨_, Tryz.func145, rfl, by kernel_rfl⟩, CallS.use (hfr H4) [0, 1, 2, 3] rfl rfl ⟨rfl, rfl, rfl, rfl, trivial⟩ ?_⟩
    rintro e H5 G' hle5 ⟨rfl, hle5', wr, rfl⟩
    (conv => whnf)
    exact ⟨(hle3.trans hle4).trans hle5, rfl, wr, [], .nil, .inl rfl⟩
   ·obtain ⟨h, g, q1, q2, q3, q4⟩ := found (fun h => hb h.2)
    obtain ⟨q5, q6⟩ := hO h g q4
    rw [q4] at hroom
    have hf := hfd 0 b h g q1 q2 q3 hroom H4
    (conv => whnf)
    rw [hz b hb]
    (conv => whnf)
    refine ⟨⟨_, Tryz.func146, rfl, by kernel_rfl⟩, CallS.use hf [0, 1, 2, 3] rfl rfl ⟨rfl, rfl, rfl, rfl, trivial⟩ ?_⟩
    rw [← q4]
    rintro e H5 G' hle5 ⟨rfl, hle5', wr, ys, hr, rfl⟩
    (conv => whnf)
    exact ⟨(hle3.trans hle4).trans hle5, rfl, wr, ys, hr, .inr (by rw [q5, q6]; rfl)⟩
  ·obtain ⟨h, g, q1, q2, q3, q4⟩ := found (fun h => ha h.1)
   obtain ⟨q5, q6⟩ := hO h g q4
   rw [q4] at hroom
   have hf := hfd a b h g q1 q2 q3 hroom H4
   rw [hz a ha]
   (conv => whnf)
   refine ⟨⟨_, Tryz.func146, rfl, by kernel_rfl⟩, CallS.use hf [0, 1, 2, 3] rfl rfl ⟨rfl, rfl, rfl, rfl, trivial⟩ ?_⟩
   rw [← q4]
   rintro e H5 G' hle5 ⟨rfl, hle5', wr, ys, hr, rfl⟩
   (conv => whnf)
   exact ⟨(hle3.trans hle4).trans hle5, rfl, wr, ys, hr, .inr (by rw [q5, q6]; rfl)⟩
 refine CallO.sub h ?_
 rintro e H' G' hle ⟨hle', rfl, wr, xs, hr, hG⟩
 rcases hG with rfl | rfl
 ·exact ⟨_, logG (Dk.put d O.bs wr) ⟨O.half, O.gen, O.fin, false, O.recs.length, xs⟩, [0, 1, 2, 3], rfl, ⟨rfl, rfl, rfl, rfl, trivial⟩, rfl, ⟨rfl, wr, xs, hr, rfl⟩, hle'⟩
 ·exact ⟨_, logG (Dk.put d O.bs wr) ⟨O.half, O.gen, O.fin, false, O.recs.length, xs⟩, [0, 1, 2, 4], rfl, ⟨rfl, rfl, rfl, rfl, trivial⟩, rfl, ⟨rfl, wr, xs, hr, rfl⟩, hle'⟩
end Go.Kx.Wa
namespace Go.Kx.Wa
open Go.Proofs Go.Kx Go.RowKit Go.Kx.Wl Go.Kx.Dk Go.Kx.Cr
set_option maxRecDepth 20000
set_option linter.unusedSimpArgs false
def RetRs (rs : List (List UInt8)) (e : SE) (H' : Hp) : Prop := ∃ A n cap ys, e = .ret (pv (.slice A n cap)) ∧ n = rs.length ∧ RecsAt H' ys rs ∧ (n = 0 ∨ ∃ b o, A = some ⟨b, o, none⟩ ∧ RdN H' (some ⟨b, o, none⟩) 0 ys)
theorem recs_get {H : Hp} {xs : List Value} {rs : List (List UInt8)} (h : RecsAt H xs rs) {i : Nat} {b : List UInt8} (hi : rs[i]? = some b) : ∃ A n c, xs[i]? = some (.slice A n c) ∧ SlAt H A n c b := by
 obtain ⟨v, h1, A, n, c, rfl, h2⟩ := All2.get' h hi
 exact ⟨A, n, c, h1, h2⟩
theorem recs_take {H : Hp} {rs : List (List UInt8)} {i : Nat} {A : Option Addr} {n c : Nat} {b : List UInt8} (hi : rs[i]? = some b) (hs : SlAt H A n c b) {ys : List Value} (hy : RecsAt H ys (rs.take i)) : RecsAt H (ys ++ [.slice A n c]) (rs.take (i + 1)) := by
 rw [List.take_add_one, hi]
 exact hy.append (.cons ⟨A, n, c, rfl, hs⟩ .nil)
theorem records_ (d : Dk) (l : Lg) (rs : List (List UInt8)) (hn : l.nr = rs.length) (hmax : rs.length ≤ 1000000) (hb : ∀ b ∈ rs, b.length ≤ 1000000000) (H : Hp) (hr : RecsAt H l.xs rs) :
  CallO Tryz.prog 88 [lP] H (logG d l) fun e H' G' => RetRs rs e H' ∧ H.Le H' ∧ G' = logG d l := by
 have h : CallO Tryz.prog 88 [lP] H (logG d l) fun e H' G' => e = .ret (.si (.ce (.self 4))) ∧ H.Le H' ∧ ∃ ys, RecsAt H' ys rs ∧ G' = logG d l ++ [.row 94 1 rs.length ys] := by
  have h : CallO Tryz.prog 88 [lP] H (logG d l) fun e H' G' => e = .ret (.si (.ce (.self 4))) ∧ H.Le H' ∧ ∃ ys x, RecsAt H' ys rs ∧ G' = dataB d :: diskB d :: logB l :: recsB l :: .row 94 1 rs.length ys :: x := by
   obtain ⟨half, gen, fin, dead, nr, xs⟩ := l
   dsimp only at hn hr
   subst hn
   refine CallO.of_body tab Tryz.func88 rfl (nt := Tryz.f88.ntmps) rfl (by kernel_rfl) ?_
   (conv => whnf)
   refine WS.nilRow 3 94 1 rfl ?_
   (conv => whnf)
   refine WS.loop (fun k' F H4 G => ∃ (i : Nat) (ys : List Value), i ≤ rs.length ∧ RecsAt H4 ys (rs.take i) ∧ k' = rs.length - i ∧ F = [(3, .si (.ce (.self 4))), (9, .si (.ce (.self 3))), (10, iV rs.length), (11, iV i)] ∧ H.Le H4 ∧ G = [dataB d, diskB d, logB ⟨half, gen, fin, dead, rs.length, xs⟩, recsB ⟨half, gen, fin, dead, rs.length, xs⟩, .row 94 1 (rs.take i).length ys]) (rs.length + 1) ?_ ?_
   ·refine ⟨rs.length, by omega, _, _, [0, 1, 2, 3, 4], ⟨0, [], by omega, .nil, rfl, rfl, .refl _, rfl⟩, ?_⟩
    exact ⟨rfl, ⟨rfl, rfl, rfl, rfl, rfl, trivial⟩, rfl, rfl, rfl, rfl, trivial⟩
   rintro k' F H4 G hle4 ⟨i, ys, hi, hy, rfl, rfl, hle, rfl⟩
   refine codeL.go tab ?_
   (conv => whnf)
   refine br.of (fun h1 => ?_) (fun h1 => ?_) <;> (conv => whnf)
   ·have h1 := of_decide_eq_true h1
    have hil : i < rs.length := by omega
    have hget : rs[i]? = some rs[i] := List.getElem?_eq_getElem hil
    have hbl := hb rs[i] (List.getElem_mem hil)
    generalize rs[i] = b at hget hbl
    obtain ⟨A, n, c, hx, hsl⟩ := recs_get (hr.mono hle) hget
    refine ⟨⟨by omega, by omega⟩, ?_⟩
    (conv => whnf)
    refine ⟨_, (by rw [show (i : Int).toNat * 1 = i by omega]; exact hx), ?_⟩
    (conv => whnf)
    refine ⟨⟨_, Tryz.func138, rfl, by kernel_rfl⟩, CallS.use (cloneS b A n c H4 hsl (by rw [hsl.len]; omega)) [] rfl rfl trivial ?_⟩
    rintro e H5 G' hle5 ⟨⟨A5, n5, c5, rfl, h5⟩, rfl⟩
    (conv => whnf)
    refine ⟨by decide, .inl ?_⟩
    intro g H6 hle6 hrd
    (conv => whnf)
    refine ⟨[.slice A5 n5 c5], rfl, hrd, fun u hu => by simp at hu; subst hu; rfl, ?_⟩
    (conv => whnf)
    refine ⟨by show ((rs.take i).length + 1) * 25 ≤ 140737488355328; rw [List.length_take]; omega, ?_⟩
    (conv => whnf)
    rw [wrap64 (x := (i : Int) + 1) (by omega) (by omega)]
    refine ⟨rs.length - (i + 1), by omega, _, [dataB d, diskB d, logB ⟨half, gen, fin, dead, rs.length, xs⟩, recsB ⟨half, gen, fin, dead, rs.length, xs⟩, .row 94 1 (rs.take (i + 1)).length (ys ++ [.slice A5 n5 c5])], [0, 1, 2, 3, 5], ⟨i + 1, ys ++ [.slice A5 n5 c5], by omega, recs_take hget (h5.mono hle6) (hy.mono (hle5.trans hle6)), rfl, rfl, hle.trans (hle5.trans hle6), rfl⟩, ?_⟩
    refine ⟨rfl, ⟨rfl, rfl, rfl, rfl, ?_, trivial⟩, rfl, rfl, rfl, rfl, trivial⟩
    have e1 : (rs.take (i + 1)).length = (rs.take i).length + 1 := by rw [List.length_take, List.length_take]; omega
    rw [e1]
    exact rfl
   ·have h1 := of_decide_eq_false h1
    obtain rfl : i = rs.length := by omega
    rw [List.take_length] at hy ⊢
    exact ⟨rfl, hle, ys, [], hy, rfl⟩
  refine CallO.sub h ?_
  rintro e H' G' hle ⟨rfl, hle', ys, x, hy, rfl⟩
  exact ⟨.si (.ce (.self 4)), [dataB d, diskB d, logB l, recsB l, .row 94 1 rs.length ys], [0, 1, 2, 3, 4], rfl, ⟨rfl, rfl, rfl, rfl, rfl, trivial⟩, rfl, rfl, hle', ys, hy, rfl⟩
 refine CallO.sub (CallO.frz (K := fun e H' G' => RetRs rs e H' ∧ H.Le H' ∧ G' = logG d l ++ [.dead]) h ?_) ?_
 ·rintro e H' G' hle ⟨rfl, hle', ys, hy, rfl⟩
  have hyl := hy.length
  refine ⟨4, _, 1, _, ys, rfl, fun h0 => List.eq_nil_of_length_eq_zero (by omega), fun x H2 hle2 hfr => ?_⟩
  refine ⟨?_, hle'.trans hle2, ?_⟩
  ·rcases hfr with ⟨rfl, h1, h2⟩ | ⟨g, o, cap, rfl, h1, h2⟩
   ·exact ⟨none, 0, 0, ys, rfl, h1.symm, hy.mono hle2, .inl rfl⟩
   ·exact ⟨_, _, cap, ys, rfl, rfl, hy.mono hle2, .inr ⟨g, o, rfl, h2⟩⟩
  ·rfl
 ·rintro e H' G' hle ⟨⟨A, n, cap, ys, rfl, h1⟩, hle', rfl⟩
  exact ⟨_, logG d l, [0, 1, 2, 3], rfl, ⟨rfl, rfl, rfl, rfl, trivial⟩, rfl, ⟨A, n, cap, ys, rfl, h1⟩, hle', rfl⟩
theorem cost_ (n : Nat) (h1 : 1 ≤ n) (h2 : n ≤ 65536) (H : Hp) : CallO Tryz.prog 157 [iV n] H [] fun e H' G' => e = .ret (iV (9 + n)) ∧ H' = H ∧ G' = [] := by
 refine CallO.of_body tab Tryz.func157 rfl (nt := Tryz.f157.ntmps) rfl (by kernel_rfl) ?_
 (conv => whnf)
 refine br.of (fun h => absurd (of_decide_eq_true h) (by omega)) (fun h => ?_)
 (conv => whnf)
 refine br.of (fun h => absurd (of_decide_eq_true h) (by omega)) (fun h => ?_)
 (conv => whnf)
 rw [wrap64 (by omega) (by omega)]
 exact ⟨rfl, rfl, rfl⟩
theorem alive_ (d : Dk) (l : Lg) (H : Hp) : CallO Tryz.prog 158 [lP] H (logG d l) fun e H' G' => e = .ret (pv (.bool (!(l.dead || d.down)))) ∧ H' = H ∧ G' = logG d { l with dead := l.dead || d.down } := by
 obtain ⟨half, gen, fin, dead, nr, xs⟩ := l
 have hup := up_ d
 refine CallO.of_body tab Tryz.func158 rfl (nt := Tryz.f158.ntmps) rfl (by kernel_rfl) ?_
 (conv => whnf)
 cases dead
 ·(conv => whnf)
  refine ⟨⟨_, Tryz.func143, rfl, by kernel_rfl⟩, CallS.use (hup H) [0, 1] rfl rfl ⟨rfl, rfl, trivial⟩ ?_⟩
  rintro e H2 G' hle2 ⟨rfl, rfl, rfl⟩
  cases hd : d.down
  ·(conv => whnf)
   exact ⟨rfl, rfl, rfl⟩
  ·(conv => whnf)
   exact ⟨rfl, rfl, rfl⟩
 ·(conv => whnf)
  exact ⟨rfl, rfl, rfl⟩
theorem room_ (d : Dk) (l : Lg) (hl : d.bs.length ≤ 1048576) (hf : l.fin ≤ d.bs.length / 2) (H : Hp) : CallO Tryz.prog 159 [lP] H (logG d l) fun e H' G' => e = .ret (iV (d.bs.length / 2 - l.fin)) ∧ H' = H ∧ G' = logG d l := by
 have hsz := size_ d l hl
 refine CallO.of_body tab Tryz.func159 rfl (nt := Tryz.f159.ntmps) rfl (by kernel_rfl) ?_
 (conv => whnf)
 refine WS.draw tab mixed (.take 0 (.take 2 (.take 3 (.take 4 (.take 5 (.alt 1 (.take 6 (.take 7 .done)) .no)))))) (by kernel_rfl) [] ?_
 (conv => whnf)
 have e1 : IntKind.i64.wrap (((d.bs.length / 2 : Nat) : Int) - l.fin) = ((d.bs.length / 2 - l.fin : Nat) : Int) := by rw [wrap64 (by omega) (by omega)]; omega
 repeat' (first
  | exact trivial
  | exact rfl
  | exact ⟨_, Tryz.func216, rfl, by kernel_rfl⟩
  | (refine CallS.use (hsz H) [0, 1, 2, 3] rfl rfl ⟨rfl, rfl, rfl, rfl, trivial⟩ ?_; rintro e H2 G' hle2 ⟨rfl, rfl, rfl⟩; (conv => whnf))
  | (rw [e1]; exact ⟨rfl, rfl, rfl⟩)
  | (refine And.intro ?_ ?_ <;> (conv => whnf)))
end Go.Kx.Wa
