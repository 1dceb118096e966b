/- Values as texts: a reader, byte by byte. No condition of its own. -/
import Derived.Test.YtdknmcaemebgfaaGreatDoorMX06
namespace Go.Kx.Js
open Go.Proofs Go.Kx Go.RowKit
set_option maxRecDepth 20000
def T : Tab := [(131, { k := TK.st [(0, 9, 1), (1, 3, 1), (2, 3, 1), (3, 3, 1)], agg := true, size := 4, bytes := 40, zero := [Z.s, Z.i IntKind.i64, Z.i IntKind.i64, Z.i IntKind.i64] }), (34, { k := TK.st [(0, 3, 1), (1, 4, 1), (2, 9, 1), (3, 31, 1), (4, 32, 1)], agg := true, size := 5, bytes := 80, zero := [Z.i IntKind.i64, Z.b, Z.s, Z.sl, Z.sl] }), (52, { k := TK.st [(0, 9, 1), (1, 34, 5)], agg := true, size := 6, bytes := 96, zero := [Z.s, Z.i IntKind.i64, Z.b, Z.s, Z.sl, Z.sl] }), (133, { k := TK.st [(0, 35, 1), (1, 3, 1)], agg := true, size := 2, bytes := 16, zero := [Z.i IntKind.i64, Z.i IntKind.i64] }), (9, { k := TK.string, agg := false, size := 1, bytes := 16, zero := [Z.s] }), (4, { k := TK.bool, agg := false, size := 1, bytes := 1, zero := [Z.b] }), (3, { k := TK.int IntKind.i64, agg := false, size := 1, bytes := 8, zero := [Z.i IntKind.i64] }), (32, { k := TK.slice 52, agg := false, size := 1, bytes := 24, zero := [Z.sl] }), (55, { k := TK.slice 5, agg := false, size := 1, bytes := 24, zero := [Z.sl] }), (35, { k := TK.int IntKind.i64, agg := false, size := 1, bytes := 8, zero := [Z.i IntKind.i64] }), (129, { k := TK.ptr 131, agg := false, size := 1, bytes := 8, zero := [Z.p] }), (69, { k := TK.func, agg := false, size := 1, bytes := 8, zero := [Z.fn] }), (1, { k := TK.func, agg := false, size := 1, bytes := 8, zero := [Z.fn] }), (5, { k := TK.int IntKind.u8, agg := false, size := 1, bytes := 1, zero := [Z.i IntKind.u8] }), (201, { k := TK.slice 205, agg := false, size := 1, bytes := 24, zero := [Z.sl] }), (205, { k := TK.st [(0, 5, 1), (1, 5, 1)], agg := true, size := 2, bytes := 2, zero := [Z.i IntKind.u8, Z.i IntKind.u8] }), (20, { k := TK.ifc, agg := false, size := 1, bytes := 16, zero := [Z.ifc] }), (21, { k := TK.int IntKind.i32, agg := false, size := 1, bytes := 4, zero := [Z.i IntKind.i32] }), (189, { k := TK.int IntKind.u32, agg := false, size := 1, bytes := 4, zero := [Z.i IntKind.u32] }), (31, { k := TK.slice 34, agg := false, size := 1, bytes := 24, zero := [Z.sl] }), (244, { k := TK.ptr 34, agg := false, size := 1, bytes := 8, zero := [Z.p] })]
set_option maxRecDepth 100000 in
theorem tab : TabOk Tryz.prog T := tabOk_mk (ts := [131, 34, 52, 133, 9, 4, 3, 32, 55, 35, 129, 69, 1, 5, 201, 205, 20, 21, 189, 31, 244]) (by kernel_rfl)
theorem mixed : Tryz.prog.follows .mixedOrders = true := by kernel_rfl

def tL (s : ByteArray) : List UInt8 := s.data.toList
theorem size_eq (s : ByteArray) : s.size = (tL s).length := by show s.data.size = s.data.toList.length; rw [Array.length_toList]
def pos (s : ByteArray) (l : List UInt8) : Nat := (tL s).length - l.length
theorem pos_le (s : ByteArray) (l : List UInt8) : pos s l ≤ s.size := by rw [size_eq]; unfold pos; omega
theorem pos_nil (s : ByteArray) : pos s [] = s.size := by rw [size_eq]; rfl
theorem pos_lt {s : ByteArray} {c : UInt8} {r : List UInt8} (h : Sfx (c :: r) (tL s)) : pos s (c :: r) < s.size := by
 have := h.le
 rw [size_eq]; unfold pos
 rw [List.length_cons] at *
 omega
theorem pos_tail {s : ByteArray} {c : UInt8} {r : List UInt8} (h : Sfx (c :: r) (tL s)) : pos s r = pos s (c :: r) + 1 := by
 have := h.le
 unfold pos
 rw [List.length_cons] at *
 omega
theorem byte_pos {s : ByteArray} {c : UInt8} {r : List UInt8} (h : Sfx (c :: r) (tL s)) : byteAt s ((pos s (c :: r) : Nat) : Int) = (c.toNat : Int) := by
 have h2 := h.drop
 have h3 : (tL s)[pos s (c :: r)]? = some c := by
  have := congrArg (fun l => l[0]?) h2
  simp only [List.getElem?_drop, Nat.add_zero, List.getElem?_cons_zero] at this
  exact this
 unfold byteAt
 rw [Int.toNat_natCast, List.getD_eq_getElem?_getD]
 show (((tL s)[pos s (c :: r)]?.getD 0).toNat : Int) = _
 rw [h3]; rfl

def rdB (s : ByteArray) (l : List UInt8) (d o : Int) : SB := .box 131 [.val (.string s), .val (.int .i64 ((pos s l : Nat) : Int)), .val (.int .i64 d), .val (.int .i64 o)]
abbrev me : SV := .si (.ce (.ptr 0 0))
def faultV (e : Nat) (p : Nat) : Value := .iface 133 (.agg #[.int .i64 (e : Int), .int .i64 ((p : Nat) : Int)])
def Out {α : Type} (s : ByteArray) (d o : Int) (Rep : Hp → α → SV → Prop) (res : Res α) (e : SE) (H' : Hp) (G' : List SB) : Prop :=
 match res with
 | .ok x r => Sfx r (tL s) ∧ (∃ sv, e = .ret sv ∧ Rep H' x sv) ∧ G' = [rdB s r d o]
 | .no er r => e = .pan [{ v := faultV er (pos s r), recovered := false }] ∧ ∃ l' o', G' = [rdB s l' d o']
def RU : Hp → Unit → SV → Prop := fun _ _ sv => sv = .tu []

theorem peek_ (s : ByteArray) (l : List UInt8) (hl : Sfx l (tL s)) (d o : Int) (H : Hp) : CallO Tryz.prog 165 [me] H [rdB s l d o] fun e H' G' => e = .ret (pv (.int .u8 ((pk l).toNat : Int))) ∧ H' = H ∧ G' = [rdB s l d o] := by
 refine CallO.of_body tab Tryz.func165 rfl (nt := Tryz.f165.ntmps) rfl (by kernel_rfl) ?_
 (conv => whnf)
 refine WS.draw tab mixed (.take 0 (.take 1 (.take 2 (.take 3 (.take 4 (.take 5 (.take 6 (.take 7 (.take 8 (.take 9 .done)))))))))) (by kernel_rfl) [] ?_
 (conv => whnf)
 refine br.of (fun h1 => ?_) (fun h1 => ?_) <;> (conv => whnf)
 ·simp only [beq_iff_eq] at h1
  cases l with
  | nil => exact ⟨rfl, rfl, rfl⟩
  | cons c r => have := pos_lt hl; omega
 ·simp only [beq_eq_false_iff_ne, ne_eq] at h1
  refine WS.draw tab mixed (.take 0 (.take 1 (.take 2 (.take 3 (.take 4 (.take 5 (.take 6 (.take 7 (.take 8 (.take 9 .done)))))))))) (by kernel_rfl) [] ?_
  (conv => whnf)
  cases l with
  | nil => exact absurd (by rw [pos_nil]) h1
  | cons c r =>
   have := pos_lt hl
   refine ⟨⟨by omega, by omega⟩, ?_⟩
   have hb := byte_pos hl
   generalize byteAt s _ = v at *
   subst hb
   (conv => whnf)
   exact ⟨rfl, rfl, rfl⟩
theorem fail_ (e p : Int) (s : ByteArray) (l : List UInt8) (d o : Int) (H : Hp) : CallO Tryz.prog 172 [me, pv (.int .i64 e), pv (.int .i64 p)] H [rdB s l d o] fun x H' G' => x = .pan [{ v := .iface 133 (.agg #[.int .i64 e, .int .i64 p]), recovered := false }] ∧ H' = H ∧ G' = [rdB s l d o] := by
 refine CallO.of_body tab Tryz.func172 rfl (nt := Tryz.f172.ntmps) rfl (by kernel_rfl) ?_
 (conv => whnf)
 exact ⟨rfl, rfl, rfl⟩
theorem stop_ (s : ByteArray) (l : List UInt8) (d o : Int) (H : Hp) : CallO Tryz.prog 132 [me] H [rdB s l d o] fun x H' G' => x = .pan [{ v := faultV 31 (pos s l), recovered := false }] ∧ H' = H ∧ G' = [rdB s l d o] := by
 refine CallO.of_body tab Tryz.func132 rfl (nt := Tryz.f132.ntmps) rfl (by kernel_rfl) ?_
 (conv => whnf)
 refine ⟨⟨_, Tryz.func172, rfl, by kernel_rfl⟩, CallS.use (fail_ 31 (pos s l : Nat) s l d o H) [0] rfl rfl ⟨rfl, trivial⟩ ?_⟩
 rintro e H' G' hle ⟨rfl, rfl, rfl⟩
 (conv => whnf)
 exact ⟨rfl, rfl, rfl⟩
theorem tk_self (c : UInt8) (r : List UInt8) : tk c (c :: r) = some r := by simp only [tk, if_true]
theorem tk_none {c : UInt8} {l : List UInt8} (h : (pk l) ≠ c) : tk c l = none := by
 cases l with
 | nil => rfl
 | cons x r => exact if_neg (show ¬ x = c from h)
theorem tk_pk {c : UInt8} {l : List UInt8} (hc : c ≠ 0) (h : pk l = c) : l = c :: l.tail := by
 cases l with
 | nil => exact absurd h.symm hc
 | cons x r => rw [show x = c from h]; rfl
theorem pos_int {s : ByteArray} {c : UInt8} {r : List UInt8} (h : Sfx (c :: r) (tL s)) : ((pos s (c :: r) : Nat) : Int) + 1 = ((pos s r : Nat) : Int) := by rw [pos_tail h]; rfl
theorem next_ (c : UInt8) (hc : c ≠ 0) (s : ByteArray) (l : List UInt8) (hl : Sfx l (tL s)) (hs : s.size ≤ 1000000) (d o : Int) (H : Hp) : CallO Tryz.prog 141 [me, pv (.int .u8 (c.toNat : Int))] H [rdB s l d o] fun e H' G' => H' = H ∧
  match tk c l with
  | some r => Sfx r (tL s) ∧ e = .ret (pv (.bool true)) ∧ G' = [rdB s r d o]
  | none => e = .ret (pv (.bool false)) ∧ G' = [rdB s l d o] := by
 refine CallO.of_body tab Tryz.func141 rfl (nt := Tryz.f141.ntmps) rfl (by kernel_rfl) ?_
 (conv => whnf)
 refine ⟨⟨_, Tryz.func165, rfl, by kernel_rfl⟩, CallS.use (peek_ s l hl d o H) [0] rfl rfl ⟨rfl, trivial⟩ ?_⟩
 rintro e H' G' hle ⟨rfl, rfl, rfl⟩
 (conv => whnf)
 refine br.of (fun h1 => ?_) (fun h1 => ?_) <;> (conv => whnf)
 ·simp only [bne_iff_ne, ne_eq] at h1
  have : tk c l = none := by
   cases l with
   | nil => rfl
   | cons x r =>
    simp only [tk]
    rw [if_neg]
    intro hx
    subst hx
    exact h1 rfl
  rw [this]
  exact ⟨rfl, rfl, rfl⟩
 ·simp only [bne_eq_false_iff_eq] at h1
  cases l with
  | nil => exact absurd (UInt8.toNat_inj.1 (show c.toNat = (0 : UInt8).toNat by simp only [pk] at h1; omega)) hc
  | cons x r =>
   have hx : x = c := UInt8.toNat_inj.1 (by simp only [pk] at h1; omega)
   subst hx
   have hp := pos_tail hl
   have hq := pos_lt hl
   rw [wrap64 (by omega) (by omega)]
   rw [tk_self]
   refine ⟨rfl, hl.tail, rfl, ?_⟩
   show [SB.box _ [_, SC.val (.int .i64 _), _, _]] = [SB.box _ [_, SC.val (.int .i64 _), _, _]]
   rw [hp]; rfl
theorem rd_step {s : ByteArray} {c : UInt8} {r : List UInt8} (h : Sfx (c :: r) (tL s)) (hs : s.size ≤ 1000000) (d o : Int) : SB.box 131 [.val (.string s), .val (.int .i64 (IntKind.i64.wrap (((pos s (c :: r) : Nat) : Int) + 1))), .val (.int .i64 d), .val (.int .i64 o)] = rdB s r d o := by
 have hq := pos_lt h
 rw [wrap64 (by omega) (by omega), pos_int h]; rfl
theorem must_ (c : UInt8) (hc : c ≠ 0) (s : ByteArray) (l : List UInt8) (hl : Sfx l (tL s)) (hs : s.size ≤ 1000000) (d o : Int) (H : Hp) : CallO Tryz.prog 202 [me, pv (.int .u8 (c.toNat : Int))] H [rdB s l d o] fun e H' G' => H' = H ∧ Out s d o RU (mustP c l) e H' G' := by
 refine CallO.of_body tab Tryz.func202 rfl (nt := Tryz.f202.ntmps) rfl (by kernel_rfl) ?_
 (conv => whnf)
 refine ⟨⟨_, Tryz.func141, rfl, by kernel_rfl⟩, CallS.use (next_ c hc s l hl hs d o H) [0] rfl rfl ⟨rfl, trivial⟩ ?_⟩
 rintro e H' G' hle ⟨rfl, h⟩
 unfold mustP
 cases ht : tk c l with
 | some r =>
  rw [ht] at h
  obtain ⟨h1, rfl, rfl⟩ := h
  (conv => whnf)
  exact ⟨rfl, h1, ⟨_, rfl, rfl⟩, rfl⟩
 | none =>
  rw [ht] at h
  obtain ⟨rfl, rfl⟩ := h
  (conv => whnf)
  refine ⟨⟨_, Tryz.func132, rfl, by kernel_rfl⟩, CallS.use (stop_ s l d o _) [0] rfl rfl ⟨rfl, trivial⟩ ?_⟩
  rintro e H2 G' hle2 ⟨rfl, rfl, rfl⟩
  (conv => whnf)
  exact ⟨rfl, rfl, l, o, rfl⟩
theorem blankP_yes {c : UInt8} {r : List UInt8} (h : isBlank c = true) : blankP (c :: r) = blankP r := if_pos h
theorem blankP_no {r : List UInt8} (h : isBlank (pk r) = false) : blankP r = r := by
 cases r with
 | nil => rfl
 | cons c r => exact if_neg (by rw [show isBlank c = false from h]; exact Bool.false_ne_true)
theorem digsP_yes {c : UInt8} {r : List UInt8} (h : isDig c = true) : digsP (c :: r) = digsP r := if_pos h
theorem digsP_no {r : List UInt8} (h : isDig (pk r) = false) : digsP r = r := by
 cases r with
 | nil => rfl
 | cons c r => exact if_neg (by rw [show isDig c = false from h]; exact Bool.false_ne_true)
def blankS : List UInt8 := [32, 9, 10, 13]
theorem ix_blank (c : UInt8) : decide (ixB blankS c ≥ 0) = isBlank c := by
 have h : ∀ n : Fin 256, decide (ixB blankS (UInt8.ofNat n.val) ≥ 0) = isBlank (UInt8.ofNat n.val) := by decide +kernel
 have := h ⟨c.toNat, c.toNat_lt⟩
 simpa using this
theorem blank_ (s : ByteArray) (l : List UInt8) (hl : Sfx l (tL s)) (hs : s.size ≤ 1000000) (d o : Int) (H : Hp) : CallO Tryz.prog 130 [me] H [rdB s l d o] fun e H' G' => H' = H ∧ e = .ret (.tu []) ∧ G' = [rdB s (blankP l) d o] := by
 refine CallO.of_body tab Tryz.func130 rfl (nt := Tryz.f130.ntmps) rfl (by kernel_rfl) ?_
 (conv => whnf)
 refine WS.loop (fun k F H2 G => ∃ r, Sfx r (tL s) ∧ blankP r = blankP l ∧ k = r.length ∧ F = [(0, me)] ∧ H2 = H ∧ G = [rdB s r d o]) (l.length + 1) ?_ ?_
 ·refine ⟨l.length, by omega, _, _, [0], ⟨l, hl, rfl, rfl, rfl, rfl, rfl⟩, ?_⟩
  exact ⟨rfl, ⟨rfl, trivial⟩, rfl, trivial⟩
 rintro k F H2 G hle ⟨r, hr, hb, rfl, rfl, rfl, rfl⟩
 refine codeL.go tab ?_
 (conv => whnf)
 refine ⟨⟨_, Tryz.func165, rfl, by kernel_rfl⟩, CallS.use (peek_ s r hr d o _) [0] rfl rfl ⟨rfl, trivial⟩ ?_⟩
 rintro e H' G' hle ⟨rfl, rfl, rfl⟩
 (conv => whnf)
 refine br.of (fun h1 => ?_) (fun h1 => ?_) <;> (conv => whnf)
 ·refine ⟨⟨_, Tryz.func165, rfl, by kernel_rfl⟩, CallS.use (peek_ s r hr d o _) [0] rfl rfl ⟨rfl, trivial⟩ ?_⟩
  rintro e H' G' hle ⟨rfl, rfl, rfl⟩
  (conv => whnf)
  refine ⟨⟨_, Tryz.func100, rfl, by kernel_rfl⟩, CallS.use (indexByte ⟨blankS.toArray⟩ (pk r) _ []) [] rfl rfl trivial ?_⟩
  rintro e H' G' hle ⟨rfl, rfl, rfl⟩
  (conv => whnf)
  refine br.of (fun h2 => ?_) (fun h2 => ?_) <;> (conv => whnf)
  all_goals (have h2 := (ix_blank (pk r)).symm.trans h2)
  ·cases r with
   | nil => cases h2
   | cons c r =>
    rw [rd_step hr hs]
    refine ⟨r.length, by rw [List.length_cons]; omega, _, _, [0], ⟨r, hr.tail, ?_, rfl, rfl, rfl, rfl⟩, ?_⟩
    ·rw [← hb]; exact (blankP_yes h2).symm
    ·exact ⟨rfl, ⟨rfl, trivial⟩, rfl, trivial⟩
  ·rw [← hb, blankP_no h2]
   exact ⟨rfl, rfl, rfl⟩
 ·simp only [bne_eq_false_iff_eq] at h1
  have h2 : pk r = 0 := UInt8.toNat_inj.1 (by show (pk r).toNat = 0; omega)
  rw [← hb, blankP_no (by rw [h2]; rfl)]
  exact ⟨rfl, rfl, rfl⟩
theorem optP_sfx {c : UInt8} {l t : List UInt8} (h : Sfx l t) : Sfx (optP c l) t := by
 unfold optP
 cases ht : tk c l with
 | none => exact h
 | some r => exact (tk_sfx ht).trans h
theorem nextB (c : UInt8) (hc : c ≠ 0) (s : ByteArray) (l : List UInt8) (hl : Sfx l (tL s)) (hs : s.size ≤ 1000000) (d o : Int) (H : Hp) : CallO Tryz.prog 141 [me, pv (.int .u8 (c.toNat : Int))] H [rdB s l d o] fun e H' G' => H' = H ∧
  e = .ret (pv (.bool (tkB c l))) ∧ G' = [rdB s (optP c l) d o] := by
 refine (next_ c hc s l hl hs d o H).mono ?_
 rintro e H' G' hle ⟨rfl, h⟩
 refine ⟨rfl, ?_⟩
 unfold tkB optP
 cases ht : tk c l with
 | none => rw [ht] at h; exact h
 | some r => rw [ht] at h; exact h.2
theorem digit_ (c : UInt8) (H : Hp) : CallO Tryz.prog 171 [pv (.int .u8 (c.toNat : Int))] H [] fun e H' G' => H' = H ∧ e = .ret (pv (.bool (isDig c))) ∧ G' = [] := by
 refine CallO.of_body tab Tryz.func171 rfl (nt := Tryz.f171.ntmps) rfl (by kernel_rfl) ?_
 (conv => whnf)
 refine br.of (fun h1 => ?_) (fun h1 => ?_) <;> (conv => whnf)
 ·simp only [ge_iff_le, decide_eq_true_eq] at h1
  refine ⟨rfl, ?_, rfl⟩
  show SE.ret (pv (.bool _)) = SE.ret (pv (.bool _))
  unfold isDig
  rw [decide_eq_true (show 48 ≤ c.toNat by omega), Bool.true_and]
  congr 3
  exact decide_eq_decide.2 (by omega)
 ·simp only [ge_iff_le, decide_eq_false_iff_not] at h1
  refine ⟨rfl, ?_, rfl⟩
  show SE.ret (pv (.bool _)) = SE.ret (pv (.bool _))
  unfold isDig
  rw [decide_eq_false (show ¬ 48 ≤ c.toNat by omega), Bool.false_and]
theorem digits_ (s : ByteArray) (l : List UInt8) (hl : Sfx l (tL s)) (hs : s.size ≤ 1000000) (d o : Int) (H : Hp) : CallO Tryz.prog 142 [me] H [rdB s l d o] fun e H' G' => H' = H ∧ Out s d o RU (digitsP l) e H' G' := by
 refine CallO.of_body tab Tryz.func142 rfl (nt := Tryz.f142.ntmps) rfl (by kernel_rfl) ?_
 (conv => whnf)
 refine ⟨⟨_, Tryz.func165, rfl, by kernel_rfl⟩, CallS.use (peek_ s l hl d o H) [0] rfl rfl ⟨rfl, trivial⟩ ?_⟩
 rintro e H' G' hle ⟨rfl, rfl, rfl⟩
 (conv => whnf)
 refine ⟨⟨_, Tryz.func171, rfl, by kernel_rfl⟩, CallS.use (digit_ (pk l) _) [] rfl rfl trivial ?_⟩
 rintro e H' G' hle ⟨rfl, rfl, rfl⟩
 (conv => whnf)
 unfold digitsP
 cases hd : isDig (pk l) <;> (conv => whnf)
 ·refine ⟨⟨_, Tryz.func132, rfl, by kernel_rfl⟩, CallS.use (stop_ s l d o _) [0] rfl rfl ⟨rfl, trivial⟩ ?_⟩
  rintro e H2 G' hle2 ⟨rfl, rfl, rfl⟩
  (conv => whnf)
  exact ⟨rfl, rfl, l, o, rfl⟩
 ·refine WS.loop (fun k F H2 G => ∃ r, Sfx r (tL s) ∧ digsP r = digsP l ∧ k = r.length ∧ F = [(0, me)] ∧ H2 = H' ∧ G = [rdB s r d o]) (l.length + 1) ?_ ?_
  ·refine ⟨l.length, by omega, _, _, [0], ⟨l, hl, rfl, rfl, rfl, rfl, rfl⟩, ?_⟩
   exact ⟨rfl, ⟨rfl, trivial⟩, rfl, trivial⟩
  rintro k F H2 G hle ⟨r, hr, hb, rfl, rfl, rfl, rfl⟩
  refine codeL.go tab ?_
  (conv => whnf)
  refine ⟨⟨_, Tryz.func165, rfl, by kernel_rfl⟩, CallS.use (peek_ s r hr d o _) [0] rfl rfl ⟨rfl, trivial⟩ ?_⟩
  rintro e H' G' hle ⟨rfl, rfl, rfl⟩
  (conv => whnf)
  refine ⟨⟨_, Tryz.func171, rfl, by kernel_rfl⟩, CallS.use (digit_ (pk r) _) [] rfl rfl trivial ?_⟩
  rintro e H' G' hle ⟨rfl, rfl, rfl⟩
  (conv => whnf)
  cases h2 : isDig (pk r) <;> (conv => whnf)
  ·refine ⟨rfl, ?_⟩
   show Out s d o RU (Res.ok () (digsP l)) _ _ _
   rw [← hb, digsP_no h2]
   exact ⟨hr, ⟨_, rfl, rfl⟩, rfl⟩
  ·cases r with
   | nil => cases h2
   | cons c r =>
    rw [rd_step hr hs]
    refine ⟨r.length, by rw [List.length_cons]; omega, _, _, [0], ⟨r, hr.tail, ?_, rfl, rfl, rfl, rfl⟩, ?_⟩
    ·rw [← hb]; exact (digsP_yes h2).symm
    ·exact ⟨rfl, ⟨rfl, trivial⟩, rfl, trivial⟩
theorem word_ (w : ByteArray) (hw : w.data.toList.all (fun c => c != 0) = true) (hw2 : w.size ≤ 100) (s : ByteArray) (l : List UInt8) (hl : Sfx l (tL s)) (hs : s.size ≤ 1000000) (d o : Int) (H : Hp) : CallO Tryz.prog 166 [me, pv (.string w)] H [rdB s l d o] fun e H' G' => H' = H ∧ Out s d o RU (wordP w.data.toList l) e H' G' := by
 refine CallO.of_body tab Tryz.func166 rfl (nt := Tryz.f166.ntmps) rfl (by kernel_rfl) ?_
 (conv => whnf)
 refine WS.loop (fun k F H2 G => ∃ (i : Nat) (r : List UInt8), Sfx r (tL s) ∧ i ≤ w.size ∧ wordP (w.data.toList.drop i) r = wordP w.data.toList l ∧ k = w.size - i ∧ F = [(0, me), (1, pv (.string w)), (6, pv (.int .i64 w.size)), (7, pv (.int .i64 i))] ∧ H2 = H ∧ G = [rdB s r d o]) (w.size + 1) ?_ ?_
 ·refine ⟨w.size, by omega, _, _, [0], ⟨0, l, hl, by omega, rfl, rfl, rfl, rfl, rfl⟩, ?_⟩
  exact ⟨rfl, ⟨rfl, trivial⟩, rfl, rfl, rfl, rfl, trivial⟩
 rintro k F H2 G hle ⟨i, r, hr, hi, hb, rfl, rfl, rfl, rfl⟩
 refine codeL.go tab ?_
 (conv => whnf)
 refine br.of (fun h1 => ?_) (fun h1 => ?_) <;> (conv => whnf)
 ·simp only [decide_eq_true_eq] at h1
  have hi2 : i < w.data.toList.length := by have := size_eq w; unfold tL at this; omega
  refine ⟨⟨by omega, by omega⟩, ?_⟩
  have hv : byteAt w (i : Int) = ((w.data.toList[i]).toNat : Int) := by
   unfold byteAt
   rw [Int.toNat_natCast, List.getD_eq_getElem?_getD, List.getElem?_eq_getElem hi2]; rfl
  generalize byteAt w (i : Int) = v at *
  subst hv
  (conv => whnf)
  have hc : w.data.toList[i] ≠ 0 := by
   have := List.all_eq_true.1 hw _ (List.getElem_mem hi2)
   simpa using this
  have hdr : w.data.toList.drop i = w.data.toList[i] :: w.data.toList.drop (i + 1) := List.drop_eq_getElem_cons hi2
  refine ⟨⟨_, Tryz.func202, rfl, by kernel_rfl⟩, CallS.use (must_ _ hc s r hr hs d o _) [0] rfl rfl ⟨rfl, trivial⟩ ?_⟩
  rintro e H' G' hle ⟨rfl, hout⟩
  rw [hdr] at hb
  simp only [wordP] at hb
  cases hm : mustP w.data.toList[i] r with
  | no er r2 =>
   rw [hm] at hout hb
   obtain ⟨rfl, l2, o2, rfl⟩ := hout
   (conv => whnf)
   refine ⟨rfl, ?_⟩
   rw [← hb]
   exact ⟨rfl, l2, o2, rfl⟩
  | ok x r2 =>
   rw [hm] at hout hb
   obtain ⟨hr2, ⟨sv, rfl, rfl⟩, rfl⟩ := hout
   (conv => whnf)
   rw [wrap64 (by omega) (by omega)]
   refine ⟨w.size - (i + 1), by omega, _, _, [0], ⟨i + 1, r2, hr2, by omega, hb, rfl, rfl, rfl, rfl⟩, ?_⟩
   exact ⟨rfl, ⟨rfl, trivial⟩, rfl, rfl, rfl, rfl, trivial⟩
 ·simp only [decide_eq_false_iff_not] at h1
  refine ⟨rfl, ?_⟩
  rw [← hb, List.drop_of_length_le (by have := size_eq w; unfold tL at this; omega)]
  exact ⟨hr, ⟨_, rfl, rfl⟩, rfl⟩
end Go.Kx.Js
namespace Go.Kx.Js
open Go.Proofs Go.Kx Go.RowKit
set_option maxRecDepth 20000
theorem wrapU8 {x : Int} (h : 0 ≤ x) (h' : x < 256) : IntKind.u8.wrap x = x := by
 show x.emod 256 = x
 exact Int.emod_eq_of_lt h h'
theorem wrap32 {x : Int} (h : -2147483648 ≤ x) (h' : x < 2147483648) : IntKind.i32.wrap x = x := by
 show (if (true && decide (x.emod 4294967296 ≥ 2147483648)) = true then x.emod 4294967296 - 4294967296 else x.emod 4294967296) = x
 have : x.emod 4294967296 = x % 4294967296 := rfl
 simp only [Bool.true_and, decide_eq_true_eq, this]
 split <;> omega
theorem or32 {a b : Nat} (ha : a < 4294967296) (hb : b < 4294967296) : (BitVec.ofInt IntKind.i32.bits (a : Int) ||| BitVec.ofInt IntKind.i32.bits (b : Int)).toNat = a ||| b := by
 show (BitVec.ofInt 32 (a : Int) ||| BitVec.ofInt 32 (b : Int)).toNat = a ||| b
 rw [BitVec.toNat_or, BitVec.ofInt_natCast, BitVec.ofInt_natCast, BitVec.toNat_ofNat, BitVec.toNat_ofNat, Nat.mod_eq_of_lt ha, Nat.mod_eq_of_lt hb]
theorem or16 {n d : Nat} (h : d < 16) : n * 16 ||| d = n * 16 + d := by
 have := Nat.shiftLeft_add_eq_or_of_lt (i := 4) (b := d) h n
 rw [Nat.shiftLeft_eq] at this
 exact this.symm
def lowerS : List UInt8 := [48, 49, 50, 51, 52, 53, 54, 55, 56, 57, 97, 98, 99, 100, 101, 102]
def lowC (c : UInt8) : UInt8 := if 65 ≤ c.toNat ∧ c.toNat ≤ 70 then c + 32 else c
theorem ix_hex (c : UInt8) : ixB lowerS (lowC c) = match hexD c with
  | some d => (d : Int)
  | none => -1 := by
 have h : ∀ n : Fin 256, ixB lowerS (lowC (UInt8.ofNat n.val)) = (match hexD (UInt8.ofNat n.val) with
  | some d => (d : Int)
  | none => -1) := by decide +kernel
 have := h ⟨c.toNat, c.toNat_lt⟩
 simpa using this
theorem lowC_yes {c : UInt8} (h1 : 65 ≤ c.toNat) (h2 : c.toNat ≤ 70) : IntKind.u8.wrap ((c.toNat : Int) + 32) = ((lowC c).toNat : Int) := by
 unfold lowC
 rw [if_pos ⟨h1, h2⟩, UInt8.toNat_add]
 have : (32 : UInt8).toNat = 32 := rfl
 rw [wrapU8 (by omega) (by omega)]
 omega
theorem lowC_no {c : UInt8} (h : ¬ (65 ≤ c.toNat ∧ c.toNat ≤ 70)) : (c.toNat : Int) = ((lowC c).toNat : Int) := by
 unfold lowC
 rw [if_neg h]
theorem hexD_lt {c : UInt8} {d : Nat} (h : hexD c = some d) : d < 16 := by
 unfold hexD at h
 split at h
 ·injection h; omega
 ·split at h
  ·injection h; omega
  ·split at h
   ·injection h; omega
   ·cases h
theorem hexP_some {k n d : Nat} {l : List UInt8} (h : hexD (pk l) = some d) : hexP (k + 1) n l = hexP k (n * 16 + d) l.tail := by
 show (match hexD (pk l) with | some d => hexP k (n * 16 + d) l.tail | none => .no 31 l) = _
 rw [h]
theorem hexP_none {k n : Nat} {l : List UInt8} (h : hexD (pk l) = none) : hexP (k + 1) n l = .no 31 l := by
 show (match hexD (pk l) with | some d => hexP k (n * 16 + d) l.tail | none => .no 31 l) = _
 rw [h]
theorem hexD_pk {l : List UInt8} {d : Nat} (h : hexD (pk l) = some d) : l = pk l :: l.tail := by
 cases l with
 | nil => cases h
 | cons c r => rfl
theorem hex_ (s : ByteArray) (l : List UInt8) (hl : Sfx l (tL s)) (hs : s.size ≤ 1000000) (d o : Int) (H : Hp) : CallO Tryz.prog 225 [me] H [rdB s l d o] fun e H' G' => H' = H ∧ Out s d o (fun (_ : Hp) (n : Nat) (sv : SV) => n < 65536 ∧ sv = pv (.int .i32 (n : Int))) (hexP 4 0 l) e H' G' := by
 refine CallO.of_body tab Tryz.func225 rfl (nt := Tryz.f225.ntmps) rfl (by kernel_rfl) ?_
 (conv => whnf)
 refine WS.loop (fun k F H2 G => ∃ (i n : Nat) (r : List UInt8), Sfx r (tL s) ∧ i ≤ 4 ∧ n < 16 ^ i ∧ hexP (4 - i) n r = hexP 4 0 l ∧ k = 4 - i ∧ F = [(0, me), (3, pv (.int .i32 n)), (6, pv (.int .i64 i))] ∧ H2 = H ∧ G = [rdB s r d o]) 5 ?_ ?_
 ·refine ⟨4, by omega, _, _, [0], ⟨0, 0, l, hl, by omega, by decide, rfl, rfl, rfl, rfl, rfl⟩, ?_⟩
  exact ⟨rfl, ⟨rfl, trivial⟩, rfl, rfl, rfl, trivial⟩
 rintro k F H2 G hle ⟨i, n, r, hr, hi, hn, hb, rfl, rfl, rfl, rfl⟩
 refine codeL.go tab ?_
 (conv => whnf)
 refine br.of (fun h1 => ?_) (fun h1 => ?_) <;> (conv => whnf)
 ·simp only [decide_eq_true_eq] at h1
  refine ⟨⟨_, Tryz.func165, rfl, by kernel_rfl⟩, CallS.use (peek_ s r hr d o _) [0] rfl rfl ⟨rfl, trivial⟩ ?_⟩
  rintro e H' G' hle ⟨rfl, rfl, rfl⟩
  (conv => whnf)
  refine br.of (fun h2 => ?_) (fun h2 => ?_) <;> (conv => whnf)
  any_goals (refine br.of (fun h3 => ?_) (fun h3 => ?_) <;> (conv => whnf))
  all_goals (first
   | (rw [lowC_yes (c := pk r) (by have := of_decide_eq_true h2; omega) (by have := of_decide_eq_true h3; omega)]; clear h2 h3)
   | (rw [lowC_no (c := pk r) (by have := of_decide_eq_false h3; omega)]; clear h2 h3)
   | (rw [lowC_no (c := pk r) (by have := of_decide_eq_false h2; omega)]; clear h2))
  all_goals
   refine ⟨⟨_, Tryz.func100, rfl, by kernel_rfl⟩, CallS.use (indexByte ⟨lowerS.toArray⟩ (lowC (pk r)) _ []) [] rfl rfl trivial ?_⟩
   rintro e H' G' hle ⟨rfl, rfl, rfl⟩
   (conv => whnf)
   have hix : ixB (⟨lowerS.toArray⟩ : ByteArray).data.toList (lowC (pk r)) = _ := ix_hex (pk r)
   have h4 : 4 - i = (4 - (i + 1)) + 1 := by omega
   rw [h4] at hb
   refine br.of (fun h5 => ?_) (fun h5 => ?_) <;> (conv => whnf)
   ·cases hx : hexD (pk r) with
    | some dd =>
     rw [hx] at hix
     change _ = (dd : Int) at hix
     have h5 := of_decide_eq_true h5
     omega
    | none =>
     rw [hexP_none hx] at hb
     refine ⟨⟨_, Tryz.func132, rfl, by kernel_rfl⟩, CallS.use (stop_ s r d o _) [0] rfl rfl ⟨rfl, trivial⟩ ?_⟩
     rintro e H2 G' hle2 ⟨rfl, rfl, rfl⟩
     (conv => whnf)
     rw [← hb]
     exact ⟨rfl, rfl, r, o, rfl⟩
   ·have h5 := of_decide_eq_false h5
    cases hx : hexD (pk r) with
    | none =>
     rw [hx] at hix
     change _ = (-1 : Int) at hix
     omega
    | some dd =>
     rw [hx] at hix
     change _ = (dd : Int) at hix
     rw [hexP_some hx] at hb
     have hdd := hexD_lt hx
     have hn2 : n < 4096 := Nat.lt_of_lt_of_le hn (Nat.pow_le_pow_right (by decide : 16 > 0) (by omega : i ≤ 3))
     refine ⟨by decide, ?_⟩
     (conv => whnf)
     rw [hix, wrap32 (x := (dd : Int)) (by omega) (by omega), wrap32 (x := (n : Int) * 2 ^ min (Int.toNat 4) IntKind.i32.bits) (by show _ ≤ (n : Int) * 16; omega) (by show (n : Int) * 16 < _; omega), show (n : Int) * 2 ^ min (Int.toNat 4) IntKind.i32.bits = ((n * 16 : Nat) : Int) by show (n : Int) * 16 = _; omega, or32 (by omega) (by omega), or16 hdd, wrap32 (by omega) (by omega), wrap64 (x := (i : Int) + 1) (by omega) (by omega)]
     have hr2 := hexD_pk hx
     rw [hr2] at hr ⊢
     rw [rd_step hr hs]
     refine ⟨4 - (i + 1), by omega, _, _, [0], ⟨i + 1, n * 16 + dd, r.tail, hr.tail, by omega, by rw [Nat.pow_succ]; omega, hb, rfl, rfl, rfl, rfl⟩, ?_⟩
     exact ⟨rfl, ⟨rfl, trivial⟩, rfl, rfl, rfl, trivial⟩
 ·simp only [decide_eq_false_iff_not] at h1
  obtain rfl : i = 4 := by omega
  refine ⟨rfl, ?_⟩
  rw [← hb]
  exact ⟨hr, ⟨_, rfl, by omega, rfl⟩, rfl⟩
end Go.Kx.Js
namespace Go.Kx.Js
open Go.Proofs Go.Kx Go.RowKit
set_option maxRecDepth 20000
theorem wrapU32 {x : Int} (h : 0 ≤ x) (h' : x < 4294967296) : IntKind.u32.wrap x = x := by
 show x.emod 4294967296 = x
 exact Int.emod_eq_of_lt h h'
theorem ones_u8 : ∀ (l : List Int), ∀ u ∈ l.map (Value.int .u8), u.oneCell' = true := by
 intro l u hu
 obtain ⟨x, _, rfl⟩ := List.mem_map.1 hu
 rfl
theorem row_eq {t : TypeId} {n m : Nat} {xs ys : List Value} (h : xs = ys) (h2 : n = m) : SB.row t 1 n xs = SB.row t 1 m ys := by rw [h, h2]
theorem cells2 (bs : List UInt8) (a b : Int) : bCells bs ++ [.int .u8 (IntKind.u8.wrap a), .int .u8 (IntKind.u8.wrap b)] = bCells (bs ++ [by1 a, by1 b]) := by
 rw [by1_eq, by1_eq, ← bCells_append]; rfl
theorem cells3 (bs : List UInt8) (a b c : Int) : bCells bs ++ [.int .u8 (IntKind.u8.wrap a), .int .u8 (IntKind.u8.wrap b), .int .u8 (IntKind.u8.wrap c)] = bCells (bs ++ [by1 a, by1 b, by1 c]) := by
 rw [by1_eq, by1_eq, by1_eq, ← bCells_append]; rfl
theorem cells4 (bs : List UInt8) (a b c d : Int) : bCells bs ++ [.int .u8 (IntKind.u8.wrap a), .int .u8 (IntKind.u8.wrap b), .int .u8 (IntKind.u8.wrap c), .int .u8 (IntKind.u8.wrap d)] = bCells (bs ++ [by1 a, by1 b, by1 c, by1 d]) := by
 rw [by1_eq, by1_eq, by1_eq, by1_eq, ← bCells_append]; rfl
theorem nonAscii (x : Int) (h0 : 128 ≤ x) (hr : x < 1114112) (hsur : x < 55296 ∨ 57344 ≤ x) (bs : List UInt8) (hn : bs.length ≤ 1000000) (H : Hp) : CallO Tryz.prog 174 [.si (.ce (.self 0)), pv (.int .i32 x)] H [.row 5 1 bs.length (bCells bs)] fun e _ G' =>
  e = .ret (.si (.ce (.self 1))) ∧ G' = [.dead, .row 5 1 (bs ++ runeB x).length (bCells (bs ++ runeB x))] := by
 refine CallO.of_body tab Tryz.func174 rfl (nt := Tryz.f174.ntmps) rfl (by kernel_rfl) ?_
 (conv => whnf)
 rw [wrapU32 (by omega) (by omega)]
 refine br.of (fun h1 => ?_) (fun h1 => ?_) <;> (conv => whnf)
 ·have h1 := of_decide_eq_true h1
  refine ⟨by decide, ?_⟩
  (conv => whnf)
  refine ⟨by decide, .inl ?_⟩
  intro g H2 hle hrd
  (conv => whnf)
  refine ⟨_, rfl, hrd, ones_u8 [_, _], ?_⟩
  (conv => whnf)
  refine ⟨by show _ * 2 ≤ _; omega, ?_⟩
  (conv => whnf)
  refine ⟨rfl, ?_⟩
  have e : runeB x = [by1 (or8 192 (sh32 x 6)), by1 (or8 128 (IntKind.u8.wrap (and8 (IntKind.u8.wrap x) 63)))] := by unfold runeB; rw [if_neg (by omega), if_pos h1]
  rw [e]
  exact congrArg (fun b => [SB.dead, b]) (row_eq (cells2 bs _ _) (by simp))
 ·have h1 := of_decide_eq_false h1
  have go3 : ∀ {G' : List SB}, x ≤ 65535 → G' = [SB.dead, .row 5 1 (bs.length + 3) (bCells bs ++ [.int .u8 (IntKind.u8.wrap (or8 224 (sh32 x 12))), .int .u8 (IntKind.u8.wrap (or8 128 (IntKind.u8.wrap (and8 (sh32 x 6) 63)))), .int .u8 (IntKind.u8.wrap (or8 128 (IntKind.u8.wrap (and8 (IntKind.u8.wrap x) 63))))])] → G' = [.dead, .row 5 1 (bs ++ runeB x).length (bCells (bs ++ runeB x))] := by
   intro G' hx hG
   have e : runeB x = [by1 (or8 224 (sh32 x 12)), by1 (or8 128 (IntKind.u8.wrap (and8 (sh32 x 6) 63))), by1 (or8 128 (IntKind.u8.wrap (and8 (IntKind.u8.wrap x) 63)))] := by unfold runeB; rw [if_neg (by omega), if_neg h1, if_pos hx]
   rw [e, hG]
   exact congrArg (fun b => [SB.dead, b]) (row_eq (cells3 bs _ _ _) (by simp))
  refine br.of (fun h2 => ?_) (fun h2 => ?_) <;> (conv => whnf)
  ·rw [h2]
   (conv => whnf)
   have h2 := of_decide_eq_true h2
   refine ⟨by decide, ?_⟩
   (conv => whnf)
   refine ⟨by decide, ?_⟩
   (conv => whnf)
   refine ⟨by decide, .inl ?_⟩
   intro g H2 hle hrd
   (conv => whnf)
   refine ⟨_, rfl, hrd, ones_u8 [_, _, _], ?_⟩
   (conv => whnf)
   refine ⟨by show _ * 2 ≤ _; omega, ?_⟩
   (conv => whnf)
   exact ⟨rfl, go3 (by omega) rfl⟩
  ·have h2 := of_decide_eq_false h2
   refine br.of (fun h3 => ?_) (fun h3 => ?_) <;> (conv => whnf)
   ·refine br.of (fun h4 => ?_) (fun h4 => ?_) <;> (conv => whnf)
    ·have h4 := of_decide_eq_true h4
     refine ⟨by decide, ?_⟩
     (conv => whnf)
     refine ⟨by decide, ?_⟩
     (conv => whnf)
     refine ⟨by decide, .inl ?_⟩
     intro g H2 hle hrd
     (conv => whnf)
     refine ⟨_, rfl, hrd, ones_u8 [_, _, _], ?_⟩
     (conv => whnf)
     refine ⟨by show _ * 2 ≤ _; omega, ?_⟩
     (conv => whnf)
     exact ⟨rfl, go3 (by omega) rfl⟩
    ·have h4 := of_decide_eq_false h4
     refine br.of (fun h5 => ?_) (fun h5 => ?_) <;> (conv => whnf)
     ·refine br.of (fun h6 => ?_) (fun h6 => ?_) <;> (conv => whnf)
      ·refine ⟨by decide, ?_⟩
       (conv => whnf)
       refine ⟨by decide, ?_⟩
       (conv => whnf)
       refine ⟨by decide, ?_⟩
       (conv => whnf)
       refine ⟨by decide, .inl ?_⟩
       intro g H2 hle hrd
       (conv => whnf)
       refine ⟨_, rfl, hrd, ones_u8 [_, _, _, _], ?_⟩
       (conv => whnf)
       refine ⟨by show _ * 2 ≤ _; omega, ?_⟩
       (conv => whnf)
       refine ⟨rfl, ?_⟩
       have e : runeB x = [by1 (or8 240 (sh32 x 18)), by1 (or8 128 (IntKind.u8.wrap (and8 (sh32 x 12) 63))), by1 (or8 128 (IntKind.u8.wrap (and8 (sh32 x 6) 63))), by1 (or8 128 (IntKind.u8.wrap (and8 (IntKind.u8.wrap x) 63)))] := by unfold runeB; rw [if_neg (by omega), if_neg h1, if_neg h4]
       rw [e]
       exact congrArg (fun b => [SB.dead, b]) (row_eq (cells4 bs _ _ _ _) (by simp))
      ·have h6 := of_decide_eq_false h6
       omega
     ·have h5 := of_decide_eq_false h5
      omega
   ·have h3 := of_decide_eq_false h3
    omega
theorem appendRune (x : Int) (h0 : 0 ≤ x) (hr : x < 1114112) (hsur : x < 55296 ∨ 57344 ≤ x) (bs : List UInt8) (hn : bs.length ≤ 1000000) (H : Hp) : CallO Tryz.prog 135 [.si (.ce (.self 0)), pv (.int .i32 x)] H [.row 5 1 bs.length (bCells bs)] fun e _ G' =>
  e = .ret (.si (.ce (.self 1))) ∧ G' = [.dead, .row 5 1 (bs ++ runeB x).length (bCells (bs ++ runeB x))] := by
 refine CallO.of_body tab Tryz.func135 rfl (nt := Tryz.f135.ntmps) rfl (by kernel_rfl) ?_
 (conv => whnf)
 rw [wrapU32 (by omega) (by omega)]
 refine br.of (fun h1 => ?_) (fun h1 => ?_) <;> (conv => whnf)
 ·have h1 := of_decide_eq_true h1
  refine ⟨by decide, .inl ?_⟩
  intro g H2 hle hrd
  (conv => whnf)
  refine ⟨_, rfl, hrd, ones_u8 [_], ?_⟩
  (conv => whnf)
  refine ⟨by show _ * 2 ≤ _; omega, ?_⟩
  (conv => whnf)
  refine ⟨rfl, ?_⟩
  have e : runeB x = [by1 x] := by unfold runeB; rw [if_pos h1]
  rw [e]
  exact congrArg (fun b => [SB.dead, b]) (row_eq (bCells_snoc bs _ (by1_eq _)) (by simp))
 ·have h1 := of_decide_eq_false h1
  refine ⟨⟨_, Tryz.func174, rfl, by kernel_rfl⟩, CallS.use (nonAscii x (by omega) hr hsur bs hn H) [0] rfl rfl ⟨rfl, trivial⟩ ?_⟩
  rintro e H' G' hle ⟨rfl, rfl⟩
  (conv => whnf)
  exact ⟨rfl, rfl⟩
end Go.Kx.Js
namespace Go.Kx.Js
open Go.Proofs Go.Kx Go.RowKit
set_option maxRecDepth 20000
theorem hasPrefixL (s p : ByteArray) (hp : p.size ≤ 100) (H : Hp) : CallO Tryz.prog 227 [pv (.string s), pv (.string p)] H [] fun e H' G' => H' = H ∧ e = .ret (pv (.bool (decide ((p.size : Int) ≤ (s.size : Int)) && strEq (s.extract 0 p.size) p))) ∧ G' = [] := by
 refine CallO.of_body tab Tryz.func227 rfl (nt := Tryz.f227.ntmps) rfl (by kernel_rfl) ?_
 (conv => whnf)
 refine br.of (fun h1 => ?_) (fun h1 => ?_) <;> (conv => whnf)
 ·have h2 := of_decide_eq_true h1
  refine ⟨⟨by decide, by omega, by omega⟩, ?_⟩
  (conv => whnf)
  rw [show decide ((p.size : Int) ≤ (s.size : Int)) = true from h1, Bool.true_and]
  exact ⟨rfl, rfl, rfl⟩
 ·rw [show decide ((p.size : Int) ≤ (s.size : Int)) = false from h1]
  exact ⟨rfl, rfl, rfl⟩
theorem digitsP_sfx {l r : List UInt8} {x : Unit} (h : digitsP l = .ok x r) : Sfx r l := by
 unfold digitsP at h
 split at h
 ·injection h with _ h; subst h; exact digsP_sfx l
 ·cases h
theorem bind_ok {α β : Type} {a : Res α} {f : α → List UInt8 → Res β} {y : β} {r : List UInt8} (h : a.bind f = .ok y r) : ∃ x r1, a = .ok x r1 ∧ f x r1 = .ok y r := by
 cases a with
 | ok x r1 => exact ⟨x, r1, rfl, h⟩
 | no e r1 => cases h
theorem optP_s (c : UInt8) (l : List UInt8) : Sfx (optP c l) l := optP_sfx (.refl l)
theorem num1_sfx {l r : List UInt8} {x : Unit} (h : num1 l = .ok x r) : Sfx r l := by
 unfold num1 at h
 split at h
 ·injection h with _ h; subst h; exact optP_s _ _
 ·exact (digitsP_sfx h).trans (optP_s _ _)
theorem num2_sfx {l r : List UInt8} {x : Unit} (h : num2 l = .ok x r) : Sfx r l := by
 unfold num2 at h
 split at h
 ·exact (digitsP_sfx h).trans (optP_s _ _)
 ·injection h with _ h; subst h; exact optP_s _ _
theorem num4_sfx {l r : List UInt8} {x : Unit} (h : num4 l = .ok x r) : Sfx r l := by
 unfold num4 at h
 split at h
 ·exact (digitsP_sfx h).trans (optP_s _ _)
 ·exact (digitsP_sfx h).trans ((optP_s _ _).trans (optP_s _ _))
theorem num3_sfx {l r : List UInt8} {x : Unit} (h : num3 l = .ok x r) : Sfx r l := by
 unfold num3 at h
 split at h
 ·exact (num4_sfx h).trans (optP_s _ _)
 ·split at h
  ·exact (num4_sfx h).trans ((optP_s _ _).trans (optP_s _ _))
  ·injection h with _ h; subst h; exact (optP_s _ _).trans (optP_s _ _)
theorem numberP_sfx {l r : List UInt8} {t : ByteArray} (h : numberP l = .ok t r) : Sfx r l := by
 unfold numberP at h
 obtain ⟨_, r1, h1, h⟩ := bind_ok h
 obtain ⟨_, r2, h2, h⟩ := bind_ok h
 obtain ⟨_, r3, h3, h⟩ := bind_ok h
 injection h with _ h
 subst h
 exact (num3_sfx h3).trans ((num2_sfx h2).trans ((num1_sfx h1).trans (optP_s _ _)))
theorem cut_eq {s : ByteArray} {r l : List UInt8} (hl : Sfx l (tL s)) (h : Sfx r l) : s.extract (((pos s l : Nat) : Int)).toNat (((pos s r : Nat) : Int)).toNat = ⟨(l.take (l.length - r.length)).toArray⟩ := by
 have h1 := h.le
 have h2 := hl.le
 have hd := hl.drop
 apply ByteArray.ext
 apply Array.ext'
 rw [ByteArray.data_extract, Array.toList_extract, List.extract_eq_take_drop]
 show List.take _ (List.drop _ (tL s)) = l.take (l.length - r.length)
 rw [Int.toNat_natCast, Int.toNat_natCast]
 unfold pos
 rw [hd]
 congr 1
 omega
theorem pos_ord {s : ByteArray} {r l : List UInt8} (h : Sfx r l) (_ : Sfx r (tL s)) : 0 ≤ ((pos s l : Nat) : Int) ∧ ((pos s l : Nat) : Int) ≤ ((pos s r : Nat) : Int) ∧ ((pos s r : Nat) : Int) ≤ (s.size : Int) := by
 have h1 := h.le
 have h2 := pos_le s r
 have h3 : pos s l ≤ pos s r := by unfold pos; omega
 omega
set_option linter.unusedSimpArgs false in
set_option maxHeartbeats 4000000 in
theorem number_ (s : ByteArray) (l : List UInt8) (hl : Sfx l (tL s)) (hs : s.size ≤ 1000000) (d o : Int) (H : Hp) : CallO Tryz.prog 103 [me] H [rdB s l d o] fun e H' G' => H' = H ∧ Out s d o (fun (_ : Hp) (t : ByteArray) (sv : SV) => sv = .si (.ag [.val (.int .i64 3), .val (.bool false), .val (.string t), .val (.slice none 0 0), .val (.slice none 0 0)])) (numberP l) e H' G' := by
 refine CallO.of_body tab Tryz.func103 rfl (nt := Tryz.f103.ntmps) rfl (by kernel_rfl) ?_
 (conv => whnf)
 refine ⟨⟨_, Tryz.func141, rfl, by kernel_rfl⟩, CallS.use (nextB 45 (by decide) s (l) hl hs d o _) [0] rfl rfl ⟨rfl, trivial⟩ ?_⟩
 rintro e H' G' hle ⟨rfl, rfl, rfl⟩
 have hm := optP_sfx (c := 45) hl
 (conv => whnf)
 refine ⟨⟨_, Tryz.func141, rfl, by kernel_rfl⟩, CallS.use (nextB 48 (by decide) s (optP 45 l) hm hs d o _) [0] rfl rfl ⟨rfl, trivial⟩ ?_⟩
 rintro e H' G' hle ⟨rfl, rfl, rfl⟩
 have hz := optP_sfx (c := 48) hm
 (conv => whnf)
 cases z : tkB 48 (optP 45 l) <;> (conv => whnf)
 ·skip
  refine ⟨⟨_, Tryz.func142, rfl, by kernel_rfl⟩, CallS.use (digits_ s (optP 48 (optP 45 l)) hz hs d o _) [0] rfl rfl ⟨rfl, trivial⟩ ?_⟩
  rintro e H' G' hle ⟨rfl, hout⟩
  cases w : digitsP (optP 48 (optP 45 l)) with
  | no er r =>
   rw [w] at hout
   obtain ⟨rfl, l2, o2, rfl⟩ := hout
   (conv => whnf)
   refine ⟨rfl, ?_⟩
   simp only [numberP, num1, num2, num3, num4, Res.bind, if_true, if_false, Bool.false_eq_true, z, w]
   exact ⟨rfl, l2, o2, rfl⟩
  | ok x rw =>
   rw [w] at hout
   obtain ⟨hrw, ⟨sv, rfl, rfl⟩, rfl⟩ := hout
   (conv => whnf)
   refine ⟨⟨_, Tryz.func141, rfl, by kernel_rfl⟩, CallS.use (nextB 46 (by decide) s (rw) hrw hs d o _) [0] rfl rfl ⟨rfl, trivial⟩ ?_⟩
   rintro e H' G' hle ⟨rfl, rfl, rfl⟩
   have hrwf := optP_sfx (c := 46) hrw
   (conv => whnf)
   cases f2 : tkB 46 (rw) <;> (conv => whnf)
   ·skip
    refine ⟨⟨_, Tryz.func141, rfl, by kernel_rfl⟩, CallS.use (nextB 101 (by decide) s (optP 46 (rw)) hrwf hs d o _) [0] rfl rfl ⟨rfl, trivial⟩ ?_⟩
    rintro e H' G' hle ⟨rfl, rfl, rfl⟩
    have hrwfe := optP_sfx (c := 101) hrwf
    (conv => whnf)
    cases e3 : tkB 101 (optP 46 (rw)) <;> (conv => whnf)
    ·skip
     refine ⟨⟨_, Tryz.func141, rfl, by kernel_rfl⟩, CallS.use (nextB 69 (by decide) s (optP 101 (optP 46 (rw))) hrwfe hs d o _) [0] rfl rfl ⟨rfl, trivial⟩ ?_⟩
     rintro e H' G' hle ⟨rfl, rfl, rfl⟩
     have hrwfE := optP_sfx (c := 69) hrwfe
     (conv => whnf)
     cases E3 : tkB 69 (optP 101 (optP 46 (rw))) <;> (conv => whnf)
     ·skip
      have hfin : numberP l = .ok ⟨(l.take (l.length - (optP 69 (optP 101 (optP 46 (rw)))).length)).toArray⟩ (optP 69 (optP 101 (optP 46 (rw)))) := by
       simp only [numberP, num1, num2, num3, num4, Res.bind, if_true, if_false, Bool.false_eq_true, z, w, f2, e3, E3]
      have hsl : Sfx (optP 69 (optP 101 (optP 46 (rw)))) l := numberP_sfx hfin
      rw [hfin]
      clear z w f2 e3 E3 hfin
      generalize optP 69 (optP 101 (optP 46 (rw))) = rl at *
      refine WS.draw tab mixed (.take 0 (.take 1 (.take 2 (.take 3 (.take 4 (.take 5 (.take 6 (.take 7 (.take 8 (.take 9 (.take 10 (.alt 11 .done .no)))))))))))) (by kernel_rfl) [1] ?_
      (conv => whnf)
      refine ⟨pos_ord hsl hrwfE, ?_⟩
      (conv => whnf)
      repeat' (first | exact trivial | exact rfl | exact ⟨rfl, hrwfE, ⟨_, rfl, rfl⟩, rfl⟩ | (rw [cut_eq hl hsl]; exact ⟨rfl, hrwfE, ⟨_, rfl, rfl⟩, rfl⟩) | (refine And.intro ?_ ?_ <;> (conv => whnf)))
     ·skip
      refine ⟨⟨_, Tryz.func141, rfl, by kernel_rfl⟩, CallS.use (nextB 43 (by decide) s (optP 69 (optP 101 (optP 46 (rw)))) hrwfE hs d o _) [0] rfl rfl ⟨rfl, trivial⟩ ?_⟩
      rintro e H' G' hle ⟨rfl, rfl, rfl⟩
      have hrwfEp := optP_sfx (c := 43) hrwfE
      (conv => whnf)
      cases p5 : tkB 43 (optP 69 (optP 101 (optP 46 (rw)))) <;> (conv => whnf)
      ·skip
       refine ⟨⟨_, Tryz.func141, rfl, by kernel_rfl⟩, CallS.use (nextB 45 (by decide) s (optP 43 (optP 69 (optP 101 (optP 46 (rw))))) hrwfEp hs d o _) [0] rfl rfl ⟨rfl, trivial⟩ ?_⟩
       rintro e H' G' hle ⟨rfl, rfl, rfl⟩
       have hrwfEm := optP_sfx (c := 45) hrwfEp
       (conv => whnf)
       refine ⟨⟨_, Tryz.func142, rfl, by kernel_rfl⟩, CallS.use (digits_ s (optP 45 (optP 43 (optP 69 (optP 101 (optP 46 (rw)))))) hrwfEm hs d o _) [0] rfl rfl ⟨rfl, trivial⟩ ?_⟩
       rintro e H' G' hle ⟨rfl, hout⟩
       cases x5 : digitsP (optP 45 (optP 43 (optP 69 (optP 101 (optP 46 (rw)))))) with
       | no er r =>
        rw [x5] at hout
        obtain ⟨rfl, l2, o2, rfl⟩ := hout
        (conv => whnf)
        refine ⟨rfl, ?_⟩
        simp only [numberP, num1, num2, num3, num4, Res.bind, if_true, if_false, Bool.false_eq_true, z, w, f2, e3, E3, p5, x5]
        exact ⟨rfl, l2, o2, rfl⟩
       | ok x rx5 =>
        rw [x5] at hout
        obtain ⟨hrx5, ⟨sv, rfl, rfl⟩, rfl⟩ := hout
        (conv => whnf)
        have hfin : numberP l = .ok ⟨(l.take (l.length - (rx5).length)).toArray⟩ (rx5) := by
         simp only [numberP, num1, num2, num3, num4, Res.bind, if_true, if_false, Bool.false_eq_true, z, w, f2, e3, E3, p5, x5]
        have hsl : Sfx (rx5) l := numberP_sfx hfin
        rw [hfin]
        clear z w f2 e3 E3 p5 x5 hfin
        generalize rx5 = rl at *
        refine WS.draw tab mixed (.take 0 (.take 1 (.take 2 (.take 3 (.take 4 (.take 5 (.take 6 (.take 7 (.take 8 (.take 9 (.take 10 (.alt 11 .done .no)))))))))))) (by kernel_rfl) [1] ?_
        (conv => whnf)
        refine ⟨pos_ord hsl hrx5, ?_⟩
        (conv => whnf)
        repeat' (first | exact trivial | exact rfl | exact ⟨rfl, hrx5, ⟨_, rfl, rfl⟩, rfl⟩ | (rw [cut_eq hl hsl]; exact ⟨rfl, hrx5, ⟨_, rfl, rfl⟩, rfl⟩) | (refine And.intro ?_ ?_ <;> (conv => whnf)))
      ·skip
       refine ⟨⟨_, Tryz.func142, rfl, by kernel_rfl⟩, CallS.use (digits_ s (optP 43 (optP 69 (optP 101 (optP 46 (rw))))) hrwfEp hs d o _) [0] rfl rfl ⟨rfl, trivial⟩ ?_⟩
       rintro e H' G' hle ⟨rfl, hout⟩
       cases x5 : digitsP (optP 43 (optP 69 (optP 101 (optP 46 (rw))))) with
       | no er r =>
        rw [x5] at hout
        obtain ⟨rfl, l2, o2, rfl⟩ := hout
        (conv => whnf)
        refine ⟨rfl, ?_⟩
        simp only [numberP, num1, num2, num3, num4, Res.bind, if_true, if_false, Bool.false_eq_true, z, w, f2, e3, E3, p5, x5]
        exact ⟨rfl, l2, o2, rfl⟩
       | ok x rx5 =>
        rw [x5] at hout
        obtain ⟨hrx5, ⟨sv, rfl, rfl⟩, rfl⟩ := hout
        (conv => whnf)
        have hfin : numberP l = .ok ⟨(l.take (l.length - (rx5).length)).toArray⟩ (rx5) := by
         simp only [numberP, num1, num2, num3, num4, Res.bind, if_true, if_false, Bool.false_eq_true, z, w, f2, e3, E3, p5, x5]
        have hsl : Sfx (rx5) l := numberP_sfx hfin
        rw [hfin]
        clear z w f2 e3 E3 p5 x5 hfin
        generalize rx5 = rl at *
        refine WS.draw tab mixed (.take 0 (.take 1 (.take 2 (.take 3 (.take 4 (.take 5 (.take 6 (.take 7 (.take 8 (.take 9 (.take 10 (.alt 11 .done .no)))))))))))) (by kernel_rfl) [1] ?_
        (conv => whnf)
        refine ⟨pos_ord hsl hrx5, ?_⟩
        (conv => whnf)
        repeat' (first | exact trivial | exact rfl | exact ⟨rfl, hrx5, ⟨_, rfl, rfl⟩, rfl⟩ | (rw [cut_eq hl hsl]; exact ⟨rfl, hrx5, ⟨_, rfl, rfl⟩, rfl⟩) | (refine And.intro ?_ ?_ <;> (conv => whnf)))
    ·skip
     refine ⟨⟨_, Tryz.func141, rfl, by kernel_rfl⟩, CallS.use (nextB 43 (by decide) s (optP 101 (optP 46 (rw))) hrwfe hs d o _) [0] rfl rfl ⟨rfl, trivial⟩ ?_⟩
     rintro e H' G' hle ⟨rfl, rfl, rfl⟩
     have hrwfep := optP_sfx (c := 43) hrwfe
     (conv => whnf)
     cases p4 : tkB 43 (optP 101 (optP 46 (rw))) <;> (conv => whnf)
     ·skip
      refine ⟨⟨_, Tryz.func141, rfl, by kernel_rfl⟩, CallS.use (nextB 45 (by decide) s (optP 43 (optP 101 (optP 46 (rw)))) hrwfep hs d o _) [0] rfl rfl ⟨rfl, trivial⟩ ?_⟩
      rintro e H' G' hle ⟨rfl, rfl, rfl⟩
      have hrwfem := optP_sfx (c := 45) hrwfep
      (conv => whnf)
      refine ⟨⟨_, Tryz.func142, rfl, by kernel_rfl⟩, CallS.use (digits_ s (optP 45 (optP 43 (optP 101 (optP 46 (rw))))) hrwfem hs d o _) [0] rfl rfl ⟨rfl, trivial⟩ ?_⟩
      rintro e H' G' hle ⟨rfl, hout⟩
      cases x4 : digitsP (optP 45 (optP 43 (optP 101 (optP 46 (rw))))) with
      | no er r =>
       rw [x4] at hout
       obtain ⟨rfl, l2, o2, rfl⟩ := hout
       (conv => whnf)
       refine ⟨rfl, ?_⟩
       simp only [numberP, num1, num2, num3, num4, Res.bind, if_true, if_false, Bool.false_eq_true, z, w, f2, e3, p4, x4]
       exact ⟨rfl, l2, o2, rfl⟩
      | ok x rx4 =>
       rw [x4] at hout
       obtain ⟨hrx4, ⟨sv, rfl, rfl⟩, rfl⟩ := hout
       (conv => whnf)
       have hfin : numberP l = .ok ⟨(l.take (l.length - (rx4).length)).toArray⟩ (rx4) := by
        simp only [numberP, num1, num2, num3, num4, Res.bind, if_true, if_false, Bool.false_eq_true, z, w, f2, e3, p4, x4]
       have hsl : Sfx (rx4) l := numberP_sfx hfin
       rw [hfin]
       clear z w f2 e3 p4 x4 hfin
       generalize rx4 = rl at *
       refine WS.draw tab mixed (.take 0 (.take 1 (.take 2 (.take 3 (.take 4 (.take 5 (.take 6 (.take 7 (.take 8 (.take 9 (.take 10 (.alt 11 .done .no)))))))))))) (by kernel_rfl) [1] ?_
       (conv => whnf)
       refine ⟨pos_ord hsl hrx4, ?_⟩
       (conv => whnf)
       repeat' (first | exact trivial | exact rfl | exact ⟨rfl, hrx4, ⟨_, rfl, rfl⟩, rfl⟩ | (rw [cut_eq hl hsl]; exact ⟨rfl, hrx4, ⟨_, rfl, rfl⟩, rfl⟩) | (refine And.intro ?_ ?_ <;> (conv => whnf)))
     ·skip
      refine ⟨⟨_, Tryz.func142, rfl, by kernel_rfl⟩, CallS.use (digits_ s (optP 43 (optP 101 (optP 46 (rw)))) hrwfep hs d o _) [0] rfl rfl ⟨rfl, trivial⟩ ?_⟩
      rintro e H' G' hle ⟨rfl, hout⟩
      cases x4 : digitsP (optP 43 (optP 101 (optP 46 (rw)))) with
      | no er r =>
       rw [x4] at hout
       obtain ⟨rfl, l2, o2, rfl⟩ := hout
       (conv => whnf)
       refine ⟨rfl, ?_⟩
       simp only [numberP, num1, num2, num3, num4, Res.bind, if_true, if_false, Bool.false_eq_true, z, w, f2, e3, p4, x4]
       exact ⟨rfl, l2, o2, rfl⟩
      | ok x rx4 =>
       rw [x4] at hout
       obtain ⟨hrx4, ⟨sv, rfl, rfl⟩, rfl⟩ := hout
       (conv => whnf)
       have hfin : numberP l = .ok ⟨(l.take (l.length - (rx4).length)).toArray⟩ (rx4) := by
        simp only [numberP, num1, num2, num3, num4, Res.bind, if_true, if_false, Bool.false_eq_true, z, w, f2, e3, p4, x4]
       have hsl : Sfx (rx4) l := numberP_sfx hfin
       rw [hfin]
       clear z w f2 e3 p4 x4 hfin
       generalize rx4 = rl at *
       refine WS.draw tab mixed (.take 0 (.take 1 (.take 2 (.take 3 (.take 4 (.take 5 (.take 6 (.take 7 (.take 8 (.take 9 (.take 10 (.alt 11 .done .no)))))))))))) (by kernel_rfl) [1] ?_
       (conv => whnf)
       refine ⟨pos_ord hsl hrx4, ?_⟩
       (conv => whnf)
       repeat' (first | exact trivial | exact rfl | exact ⟨rfl, hrx4, ⟨_, rfl, rfl⟩, rfl⟩ | (rw [cut_eq hl hsl]; exact ⟨rfl, hrx4, ⟨_, rfl, rfl⟩, rfl⟩) | (refine And.intro ?_ ?_ <;> (conv => whnf)))
   ·skip
    refine ⟨⟨_, Tryz.func142, rfl, by kernel_rfl⟩, CallS.use (digits_ s (optP 46 (rw)) hrwf hs d o _) [0] rfl rfl ⟨rfl, trivial⟩ ?_⟩
    rintro e H' G' hle ⟨rfl, hout⟩
    cases y2 : digitsP (optP 46 (rw)) with
    | no er r =>
     rw [y2] at hout
     obtain ⟨rfl, l2, o2, rfl⟩ := hout
     (conv => whnf)
     refine ⟨rfl, ?_⟩
     simp only [numberP, num1, num2, num3, num4, Res.bind, if_true, if_false, Bool.false_eq_true, z, w, f2, y2]
     exact ⟨rfl, l2, o2, rfl⟩
    | ok x ry2 =>
     rw [y2] at hout
     obtain ⟨hry2, ⟨sv, rfl, rfl⟩, rfl⟩ := hout
     (conv => whnf)
     refine ⟨⟨_, Tryz.func141, rfl, by kernel_rfl⟩, CallS.use (nextB 101 (by decide) s (ry2) hry2 hs d o _) [0] rfl rfl ⟨rfl, trivial⟩ ?_⟩
     rintro e H' G' hle ⟨rfl, rfl, rfl⟩
     have hry2e := optP_sfx (c := 101) hry2
     (conv => whnf)
     cases e4 : tkB 101 (ry2) <;> (conv => whnf)
     ·skip
      refine ⟨⟨_, Tryz.func141, rfl, by kernel_rfl⟩, CallS.use (nextB 69 (by decide) s (optP 101 (ry2)) hry2e hs d o _) [0] rfl rfl ⟨rfl, trivial⟩ ?_⟩
      rintro e H' G' hle ⟨rfl, rfl, rfl⟩
      have hry2E := optP_sfx (c := 69) hry2e
      (conv => whnf)
      cases E4 : tkB 69 (optP 101 (ry2)) <;> (conv => whnf)
      ·skip
       have hfin : numberP l = .ok ⟨(l.take (l.length - (optP 69 (optP 101 (ry2))).length)).toArray⟩ (optP 69 (optP 101 (ry2))) := by
        simp only [numberP, num1, num2, num3, num4, Res.bind, if_true, if_false, Bool.false_eq_true, z, w, f2, y2, e4, E4]
       have hsl : Sfx (optP 69 (optP 101 (ry2))) l := numberP_sfx hfin
       rw [hfin]
       clear z w f2 y2 e4 E4 hfin
       generalize optP 69 (optP 101 (ry2)) = rl at *
       refine WS.draw tab mixed (.take 0 (.take 1 (.take 2 (.take 3 (.take 4 (.take 5 (.take 6 (.take 7 (.take 8 (.take 9 (.take 10 (.alt 11 .done .no)))))))))))) (by kernel_rfl) [1] ?_
       (conv => whnf)
       refine ⟨pos_ord hsl hry2E, ?_⟩
       (conv => whnf)
       repeat' (first | exact trivial | exact rfl | exact ⟨rfl, hry2E, ⟨_, rfl, rfl⟩, rfl⟩ | (rw [cut_eq hl hsl]; exact ⟨rfl, hry2E, ⟨_, rfl, rfl⟩, rfl⟩) | (refine And.intro ?_ ?_ <;> (conv => whnf)))
      ·skip
       refine ⟨⟨_, Tryz.func141, rfl, by kernel_rfl⟩, CallS.use (nextB 43 (by decide) s (optP 69 (optP 101 (ry2))) hry2E hs d o _) [0] rfl rfl ⟨rfl, trivial⟩ ?_⟩
       rintro e H' G' hle ⟨rfl, rfl, rfl⟩
       have hry2Ep := optP_sfx (c := 43) hry2E
       (conv => whnf)
       cases p6 : tkB 43 (optP 69 (optP 101 (ry2))) <;> (conv => whnf)
       ·skip
        refine ⟨⟨_, Tryz.func141, rfl, by kernel_rfl⟩, CallS.use (nextB 45 (by decide) s (optP 43 (optP 69 (optP 101 (ry2)))) hry2Ep hs d o _) [0] rfl rfl ⟨rfl, trivial⟩ ?_⟩
        rintro e H' G' hle ⟨rfl, rfl, rfl⟩
        have hry2Em := optP_sfx (c := 45) hry2Ep
        (conv => whnf)
        refine ⟨⟨_, Tryz.func142, rfl, by kernel_rfl⟩, CallS.use (digits_ s (optP 45 (optP 43 (optP 69 (optP 101 (ry2))))) hry2Em hs d o _) [0] rfl rfl ⟨rfl, trivial⟩ ?_⟩
        rintro e H' G' hle ⟨rfl, hout⟩
        cases x6 : digitsP (optP 45 (optP 43 (optP 69 (optP 101 (ry2))))) with
        | no er r =>
         rw [x6] at hout
         obtain ⟨rfl, l2, o2, rfl⟩ := hout
         (conv => whnf)
         refine ⟨rfl, ?_⟩
         simp only [numberP, num1, num2, num3, num4, Res.bind, if_true, if_false, Bool.false_eq_true, z, w, f2, y2, e4, E4, p6, x6]
         exact ⟨rfl, l2, o2, rfl⟩
        | ok x rx6 =>
         rw [x6] at hout
         obtain ⟨hrx6, ⟨sv, rfl, rfl⟩, rfl⟩ := hout
         (conv => whnf)
         have hfin : numberP l = .ok ⟨(l.take (l.length - (rx6).length)).toArray⟩ (rx6) := by
          simp only [numberP, num1, num2, num3, num4, Res.bind, if_true, if_false, Bool.false_eq_true, z, w, f2, y2, e4, E4, p6, x6]
         have hsl : Sfx (rx6) l := numberP_sfx hfin
         rw [hfin]
         clear z w f2 y2 e4 E4 p6 x6 hfin
         generalize rx6 = rl at *
         refine WS.draw tab mixed (.take 0 (.take 1 (.take 2 (.take 3 (.take 4 (.take 5 (.take 6 (.take 7 (.take 8 (.take 9 (.take 10 (.alt 11 .done .no)))))))))))) (by kernel_rfl) [1] ?_
         (conv => whnf)
         refine ⟨pos_ord hsl hrx6, ?_⟩
         (conv => whnf)
         repeat' (first | exact trivial | exact rfl | exact ⟨rfl, hrx6, ⟨_, rfl, rfl⟩, rfl⟩ | (rw [cut_eq hl hsl]; exact ⟨rfl, hrx6, ⟨_, rfl, rfl⟩, rfl⟩) | (refine And.intro ?_ ?_ <;> (conv => whnf)))
       ·skip
        refine ⟨⟨_, Tryz.func142, rfl, by kernel_rfl⟩, CallS.use (digits_ s (optP 43 (optP 69 (optP 101 (ry2)))) hry2Ep hs d o _) [0] rfl rfl ⟨rfl, trivial⟩ ?_⟩
        rintro e H' G' hle ⟨rfl, hout⟩
        cases x6 : digitsP (optP 43 (optP 69 (optP 101 (ry2)))) with
        | no er r =>
         rw [x6] at hout
         obtain ⟨rfl, l2, o2, rfl⟩ := hout
         (conv => whnf)
         refine ⟨rfl, ?_⟩
         simp only [numberP, num1, num2, num3, num4, Res.bind, if_true, if_false, Bool.false_eq_true, z, w, f2, y2, e4, E4, p6, x6]
         exact ⟨rfl, l2, o2, rfl⟩
        | ok x rx6 =>
         rw [x6] at hout
         obtain ⟨hrx6, ⟨sv, rfl, rfl⟩, rfl⟩ := hout
         (conv => whnf)
         have hfin : numberP l = .ok ⟨(l.take (l.length - (rx6).length)).toArray⟩ (rx6) := by
          simp only [numberP, num1, num2, num3, num4, Res.bind, if_true, if_false, Bool.false_eq_true, z, w, f2, y2, e4, E4, p6, x6]
         have hsl : Sfx (rx6) l := numberP_sfx hfin
         rw [hfin]
         clear z w f2 y2 e4 E4 p6 x6 hfin
         generalize rx6 = rl at *
         refine WS.draw tab mixed (.take 0 (.take 1 (.take 2 (.take 3 (.take 4 (.take 5 (.take 6 (.take 7 (.take 8 (.take 9 (.take 10 (.alt 11 .done .no)))))))))))) (by kernel_rfl) [1] ?_
         (conv => whnf)
         refine ⟨pos_ord hsl hrx6, ?_⟩
         (conv => whnf)
         repeat' (first | exact trivial | exact rfl | exact ⟨rfl, hrx6, ⟨_, rfl, rfl⟩, rfl⟩ | (rw [cut_eq hl hsl]; exact ⟨rfl, hrx6, ⟨_, rfl, rfl⟩, rfl⟩) | (refine And.intro ?_ ?_ <;> (conv => whnf)))
     ·skip
      refine ⟨⟨_, Tryz.func141, rfl, by kernel_rfl⟩, CallS.use (nextB 43 (by decide) s (optP 101 (ry2)) hry2e hs d o _) [0] rfl rfl ⟨rfl, trivial⟩ ?_⟩
      rintro e H' G' hle ⟨rfl, rfl, rfl⟩
      have hry2ep := optP_sfx (c := 43) hry2e
      (conv => whnf)
      cases p5 : tkB 43 (optP 101 (ry2)) <;> (conv => whnf)
      ·skip
       refine ⟨⟨_, Tryz.func141, rfl, by kernel_rfl⟩, CallS.use (nextB 45 (by decide) s (optP 43 (optP 101 (ry2))) hry2ep hs d o _) [0] rfl rfl ⟨rfl, trivial⟩ ?_⟩
       rintro e H' G' hle ⟨rfl, rfl, rfl⟩
       have hry2em := optP_sfx (c := 45) hry2ep
       (conv => whnf)
       refine ⟨⟨_, Tryz.func142, rfl, by kernel_rfl⟩, CallS.use (digits_ s (optP 45 (optP 43 (optP 101 (ry2)))) hry2em hs d o _) [0] rfl rfl ⟨rfl, trivial⟩ ?_⟩
       rintro e H' G' hle ⟨rfl, hout⟩
       cases x5 : digitsP (optP 45 (optP 43 (optP 101 (ry2)))) with
       | no er r =>
        rw [x5] at hout
        obtain ⟨rfl, l2, o2, rfl⟩ := hout
        (conv => whnf)
        refine ⟨rfl, ?_⟩
        simp only [numberP, num1, num2, num3, num4, Res.bind, if_true, if_false, Bool.false_eq_true, z, w, f2, y2, e4, p5, x5]
        exact ⟨rfl, l2, o2, rfl⟩
       | ok x rx5 =>
        rw [x5] at hout
        obtain ⟨hrx5, ⟨sv, rfl, rfl⟩, rfl⟩ := hout
        (conv => whnf)
        have hfin : numberP l = .ok ⟨(l.take (l.length - (rx5).length)).toArray⟩ (rx5) := by
         simp only [numberP, num1, num2, num3, num4, Res.bind, if_true, if_false, Bool.false_eq_true, z, w, f2, y2, e4, p5, x5]
        have hsl : Sfx (rx5) l := numberP_sfx hfin
        rw [hfin]
        clear z w f2 y2 e4 p5 x5 hfin
        generalize rx5 = rl at *
        refine WS.draw tab mixed (.take 0 (.take 1 (.take 2 (.take 3 (.take 4 (.take 5 (.take 6 (.take 7 (.take 8 (.take 9 (.take 10 (.alt 11 .done .no)))))))))))) (by kernel_rfl) [1] ?_
        (conv => whnf)
        refine ⟨pos_ord hsl hrx5, ?_⟩
        (conv => whnf)
        repeat' (first | exact trivial | exact rfl | exact ⟨rfl, hrx5, ⟨_, rfl, rfl⟩, rfl⟩ | (rw [cut_eq hl hsl]; exact ⟨rfl, hrx5, ⟨_, rfl, rfl⟩, rfl⟩) | (refine And.intro ?_ ?_ <;> (conv => whnf)))
      ·skip
       refine ⟨⟨_, Tryz.func142, rfl, by kernel_rfl⟩, CallS.use (digits_ s (optP 43 (optP 101 (ry2))) hry2ep hs d o _) [0] rfl rfl ⟨rfl, trivial⟩ ?_⟩
       rintro e H' G' hle ⟨rfl, hout⟩
       cases x5 : digitsP (optP 43 (optP 101 (ry2))) with
       | no er r =>
        rw [x5] at hout
        obtain ⟨rfl, l2, o2, rfl⟩ := hout
        (conv => whnf)
        refine ⟨rfl, ?_⟩
        simp only [numberP, num1, num2, num3, num4, Res.bind, if_true, if_false, Bool.false_eq_true, z, w, f2, y2, e4, p5, x5]
        exact ⟨rfl, l2, o2, rfl⟩
       | ok x rx5 =>
        rw [x5] at hout
        obtain ⟨hrx5, ⟨sv, rfl, rfl⟩, rfl⟩ := hout
        (conv => whnf)
        have hfin : numberP l = .ok ⟨(l.take (l.length - (rx5).length)).toArray⟩ (rx5) := by
         simp only [numberP, num1, num2, num3, num4, Res.bind, if_true, if_false, Bool.false_eq_true, z, w, f2, y2, e4, p5, x5]
        have hsl : Sfx (rx5) l := numberP_sfx hfin
        rw [hfin]
        clear z w f2 y2 e4 p5 x5 hfin
        generalize rx5 = rl at *
        refine WS.draw tab mixed (.take 0 (.take 1 (.take 2 (.take 3 (.take 4 (.take 5 (.take 6 (.take 7 (.take 8 (.take 9 (.take 10 (.alt 11 .done .no)))))))))))) (by kernel_rfl) [1] ?_
        (conv => whnf)
        refine ⟨pos_ord hsl hrx5, ?_⟩
        (conv => whnf)
        repeat' (first | exact trivial | exact rfl | exact ⟨rfl, hrx5, ⟨_, rfl, rfl⟩, rfl⟩ | (rw [cut_eq hl hsl]; exact ⟨rfl, hrx5, ⟨_, rfl, rfl⟩, rfl⟩) | (refine And.intro ?_ ?_ <;> (conv => whnf)))
 ·skip
  refine ⟨⟨_, Tryz.func141, rfl, by kernel_rfl⟩, CallS.use (nextB 46 (by decide) s (optP 48 (optP 45 l)) hz hs d o _) [0] rfl rfl ⟨rfl, trivial⟩ ?_⟩
  rintro e H' G' hle ⟨rfl, rfl, rfl⟩
  have hzf := optP_sfx (c := 46) hz
  (conv => whnf)
  cases f1 : tkB 46 (optP 48 (optP 45 l)) <;> (conv => whnf)
  ·skip
   refine ⟨⟨_, Tryz.func141, rfl, by kernel_rfl⟩, CallS.use (nextB 101 (by decide) s (optP 46 (optP 48 (optP 45 l))) hzf hs d o _) [0] rfl rfl ⟨rfl, trivial⟩ ?_⟩
   rintro e H' G' hle ⟨rfl, rfl, rfl⟩
   have hzfe := optP_sfx (c := 101) hzf
   (conv => whnf)
   cases e2 : tkB 101 (optP 46 (optP 48 (optP 45 l))) <;> (conv => whnf)
   ·skip
    refine ⟨⟨_, Tryz.func141, rfl, by kernel_rfl⟩, CallS.use (nextB 69 (by decide) s (optP 101 (optP 46 (optP 48 (optP 45 l)))) hzfe hs d o _) [0] rfl rfl ⟨rfl, trivial⟩ ?_⟩
    rintro e H' G' hle ⟨rfl, rfl, rfl⟩
    have hzfE := optP_sfx (c := 69) hzfe
    (conv => whnf)
    cases E2 : tkB 69 (optP 101 (optP 46 (optP 48 (optP 45 l)))) <;> (conv => whnf)
    ·skip
     have hfin : numberP l = .ok ⟨(l.take (l.length - (optP 69 (optP 101 (optP 46 (optP 48 (optP 45 l))))).length)).toArray⟩ (optP 69 (optP 101 (optP 46 (optP 48 (optP 45 l))))) := by
      simp only [numberP, num1, num2, num3, num4, Res.bind, if_true, if_false, Bool.false_eq_true, z, f1, e2, E2]
     have hsl : Sfx (optP 69 (optP 101 (optP 46 (optP 48 (optP 45 l))))) l := numberP_sfx hfin
     rw [hfin]
     clear z f1 e2 E2 hfin
     generalize optP 69 (optP 101 (optP 46 (optP 48 (optP 45 l)))) = rl at *
     refine WS.draw tab mixed (.take 0 (.take 1 (.take 2 (.take 3 (.take 4 (.take 5 (.take 6 (.take 7 (.take 8 (.take 9 (.take 10 (.alt 11 .done .no)))))))))))) (by kernel_rfl) [1] ?_
     (conv => whnf)
     refine ⟨pos_ord hsl hzfE, ?_⟩
     (conv => whnf)
     repeat' (first | exact trivial | exact rfl | exact ⟨rfl, hzfE, ⟨_, rfl, rfl⟩, rfl⟩ | (rw [cut_eq hl hsl]; exact ⟨rfl, hzfE, ⟨_, rfl, rfl⟩, rfl⟩) | (refine And.intro ?_ ?_ <;> (conv => whnf)))
    ·skip
     refine ⟨⟨_, Tryz.func141, rfl, by kernel_rfl⟩, CallS.use (nextB 43 (by decide) s (optP 69 (optP 101 (optP 46 (optP 48 (optP 45 l))))) hzfE hs d o _) [0] rfl rfl ⟨rfl, trivial⟩ ?_⟩
     rintro e H' G' hle ⟨rfl, rfl, rfl⟩
     have hzfEp := optP_sfx (c := 43) hzfE
     (conv => whnf)
     cases p4 : tkB 43 (optP 69 (optP 101 (optP 46 (optP 48 (optP 45 l))))) <;> (conv => whnf)
     ·skip
      refine ⟨⟨_, Tryz.func141, rfl, by kernel_rfl⟩, CallS.use (nextB 45 (by decide) s (optP 43 (optP 69 (optP 101 (optP 46 (optP 48 (optP 45 l)))))) hzfEp hs d o _) [0] rfl rfl ⟨rfl, trivial⟩ ?_⟩
      rintro e H' G' hle ⟨rfl, rfl, rfl⟩
      have hzfEm := optP_sfx (c := 45) hzfEp
      (conv => whnf)
      refine ⟨⟨_, Tryz.func142, rfl, by kernel_rfl⟩, CallS.use (digits_ s (optP 45 (optP 43 (optP 69 (optP 101 (optP 46 (optP 48 (optP 45 l))))))) hzfEm hs d o _) [0] rfl rfl ⟨rfl, trivial⟩ ?_⟩
      rintro e H' G' hle ⟨rfl, hout⟩
      cases x4 : digitsP (optP 45 (optP 43 (optP 69 (optP 101 (optP 46 (optP 48 (optP 45 l))))))) with
      | no er r =>
       rw [x4] at hout
       obtain ⟨rfl, l2, o2, rfl⟩ := hout
       (conv => whnf)
       refine ⟨rfl, ?_⟩
       simp only [numberP, num1, num2, num3, num4, Res.bind, if_true, if_false, Bool.false_eq_true, z, f1, e2, E2, p4, x4]
       exact ⟨rfl, l2, o2, rfl⟩
      | ok x rx4 =>
       rw [x4] at hout
       obtain ⟨hrx4, ⟨sv, rfl, rfl⟩, rfl⟩ := hout
       (conv => whnf)
       have hfin : numberP l = .ok ⟨(l.take (l.length - (rx4).length)).toArray⟩ (rx4) := by
        simp only [numberP, num1, num2, num3, num4, Res.bind, if_true, if_false, Bool.false_eq_true, z, f1, e2, E2, p4, x4]
       have hsl : Sfx (rx4) l := numberP_sfx hfin
       rw [hfin]
       clear z f1 e2 E2 p4 x4 hfin
       generalize rx4 = rl at *
       refine WS.draw tab mixed (.take 0 (.take 1 (.take 2 (.take 3 (.take 4 (.take 5 (.take 6 (.take 7 (.take 8 (.take 9 (.take 10 (.alt 11 .done .no)))))))))))) (by kernel_rfl) [1] ?_
       (conv => whnf)
       refine ⟨pos_ord hsl hrx4, ?_⟩
       (conv => whnf)
       repeat' (first | exact trivial | exact rfl | exact ⟨rfl, hrx4, ⟨_, rfl, rfl⟩, rfl⟩ | (rw [cut_eq hl hsl]; exact ⟨rfl, hrx4, ⟨_, rfl, rfl⟩, rfl⟩) | (refine And.intro ?_ ?_ <;> (conv => whnf)))
     ·skip
      refine ⟨⟨_, Tryz.func142, rfl, by kernel_rfl⟩, CallS.use (digits_ s (optP 43 (optP 69 (optP 101 (optP 46 (optP 48 (optP 45 l)))))) hzfEp hs d o _) [0] rfl rfl ⟨rfl, trivial⟩ ?_⟩
      rintro e H' G' hle ⟨rfl, hout⟩
      cases x4 : digitsP (optP 43 (optP 69 (optP 101 (optP 46 (optP 48 (optP 45 l)))))) with
      | no er r =>
       rw [x4] at hout
       obtain ⟨rfl, l2, o2, rfl⟩ := hout
       (conv => whnf)
       refine ⟨rfl, ?_⟩
       simp only [numberP, num1, num2, num3, num4, Res.bind, if_true, if_false, Bool.false_eq_true, z, f1, e2, E2, p4, x4]
       exact ⟨rfl, l2, o2, rfl⟩
      | ok x rx4 =>
       rw [x4] at hout
       obtain ⟨hrx4, ⟨sv, rfl, rfl⟩, rfl⟩ := hout
       (conv => whnf)
       have hfin : numberP l = .ok ⟨(l.take (l.length - (rx4).length)).toArray⟩ (rx4) := by
        simp only [numberP, num1, num2, num3, num4, Res.bind, if_true, if_false, Bool.false_eq_true, z, f1, e2, E2, p4, x4]
       have hsl : Sfx (rx4) l := numberP_sfx hfin
       rw [hfin]
       clear z f1 e2 E2 p4 x4 hfin
       generalize rx4 = rl at *
       refine WS.draw tab mixed (.take 0 (.take 1 (.take 2 (.take 3 (.take 4 (.take 5 (.take 6 (.take 7 (.take 8 (.take 9 (.take 10 (.alt 11 .done .no)))))))))))) (by kernel_rfl) [1] ?_
       (conv => whnf)
       refine ⟨pos_ord hsl hrx4, ?_⟩
       (conv => whnf)
       repeat' (first | exact trivial | exact rfl | exact ⟨rfl, hrx4, ⟨_, rfl, rfl⟩, rfl⟩ | (rw [cut_eq hl hsl]; exact ⟨rfl, hrx4, ⟨_, rfl, rfl⟩, rfl⟩) | (refine And.intro ?_ ?_ <;> (conv => whnf)))
   ·skip
    refine ⟨⟨_, Tryz.func141, rfl, by kernel_rfl⟩, CallS.use (nextB 43 (by decide) s (optP 101 (optP 46 (optP 48 (optP 45 l)))) hzfe hs d o _) [0] rfl rfl ⟨rfl, trivial⟩ ?_⟩
    rintro e H' G' hle ⟨rfl, rfl, rfl⟩
    have hzfep := optP_sfx (c := 43) hzfe
    (conv => whnf)
    cases p3 : tkB 43 (optP 101 (optP 46 (optP 48 (optP 45 l)))) <;> (conv => whnf)
    ·skip
     refine ⟨⟨_, Tryz.func141, rfl, by kernel_rfl⟩, CallS.use (nextB 45 (by decide) s (optP 43 (optP 101 (optP 46 (optP 48 (optP 45 l))))) hzfep hs d o _) [0] rfl rfl ⟨rfl, trivial⟩ ?_⟩
     rintro e H' G' hle ⟨rfl, rfl, rfl⟩
     have hzfem := optP_sfx (c := 45) hzfep
     (conv => whnf)
     refine ⟨⟨_, Tryz.func142, rfl, by kernel_rfl⟩, CallS.use (digits_ s (optP 45 (optP 43 (optP 101 (optP 46 (optP 48 (optP 45 l)))))) hzfem hs d o _) [0] rfl rfl ⟨rfl, trivial⟩ ?_⟩
     rintro e H' G' hle ⟨rfl, hout⟩
     cases x3 : digitsP (optP 45 (optP 43 (optP 101 (optP 46 (optP 48 (optP 45 l)))))) with
     | no er r =>
      rw [x3] at hout
      obtain ⟨rfl, l2, o2, rfl⟩ := hout
      (conv => whnf)
      refine ⟨rfl, ?_⟩
      simp only [numberP, num1, num2, num3, num4, Res.bind, if_true, if_false, Bool.false_eq_true, z, f1, e2, p3, x3]
      exact ⟨rfl, l2, o2, rfl⟩
     | ok x rx3 =>
      rw [x3] at hout
      obtain ⟨hrx3, ⟨sv, rfl, rfl⟩, rfl⟩ := hout
      (conv => whnf)
      have hfin : numberP l = .ok ⟨(l.take (l.length - (rx3).length)).toArray⟩ (rx3) := by
       simp only [numberP, num1, num2, num3, num4, Res.bind, if_true, if_false, Bool.false_eq_true, z, f1, e2, p3, x3]
      have hsl : Sfx (rx3) l := numberP_sfx hfin
      rw [hfin]
      clear z f1 e2 p3 x3 hfin
      generalize rx3 = rl at *
      refine WS.draw tab mixed (.take 0 (.take 1 (.take 2 (.take 3 (.take 4 (.take 5 (.take 6 (.take 7 (.take 8 (.take 9 (.take 10 (.alt 11 .done .no)))))))))))) (by kernel_rfl) [1] ?_
      (conv => whnf)
      refine ⟨pos_ord hsl hrx3, ?_⟩
      (conv => whnf)
      repeat' (first | exact trivial | exact rfl | exact ⟨rfl, hrx3, ⟨_, rfl, rfl⟩, rfl⟩ | (rw [cut_eq hl hsl]; exact ⟨rfl, hrx3, ⟨_, rfl, rfl⟩, rfl⟩) | (refine And.intro ?_ ?_ <;> (conv => whnf)))
    ·skip
     refine ⟨⟨_, Tryz.func142, rfl, by kernel_rfl⟩, CallS.use (digits_ s (optP 43 (optP 101 (optP 46 (optP 48 (optP 45 l))))) hzfep hs d o _) [0] rfl rfl ⟨rfl, trivial⟩ ?_⟩
     rintro e H' G' hle ⟨rfl, hout⟩
     cases x3 : digitsP (optP 43 (optP 101 (optP 46 (optP 48 (optP 45 l))))) with
     | no er r =>
      rw [x3] at hout
      obtain ⟨rfl, l2, o2, rfl⟩ := hout
      (conv => whnf)
      refine ⟨rfl, ?_⟩
      simp only [numberP, num1, num2, num3, num4, Res.bind, if_true, if_false, Bool.false_eq_true, z, f1, e2, p3, x3]
      exact ⟨rfl, l2, o2, rfl⟩
     | ok x rx3 =>
      rw [x3] at hout
      obtain ⟨hrx3, ⟨sv, rfl, rfl⟩, rfl⟩ := hout
      (conv => whnf)
      have hfin : numberP l = .ok ⟨(l.take (l.length - (rx3).length)).toArray⟩ (rx3) := by
       simp only [numberP, num1, num2, num3, num4, Res.bind, if_true, if_false, Bool.false_eq_true, z, f1, e2, p3, x3]
      have hsl : Sfx (rx3) l := numberP_sfx hfin
      rw [hfin]
      clear z f1 e2 p3 x3 hfin
      generalize rx3 = rl at *
      refine WS.draw tab mixed (.take 0 (.take 1 (.take 2 (.take 3 (.take 4 (.take 5 (.take 6 (.take 7 (.take 8 (.take 9 (.take 10 (.alt 11 .done .no)))))))))))) (by kernel_rfl) [1] ?_
      (conv => whnf)
      refine ⟨pos_ord hsl hrx3, ?_⟩
      (conv => whnf)
      repeat' (first | exact trivial | exact rfl | exact ⟨rfl, hrx3, ⟨_, rfl, rfl⟩, rfl⟩ | (rw [cut_eq hl hsl]; exact ⟨rfl, hrx3, ⟨_, rfl, rfl⟩, rfl⟩) | (refine And.intro ?_ ?_ <;> (conv => whnf)))
  ·skip
   refine ⟨⟨_, Tryz.func142, rfl, by kernel_rfl⟩, CallS.use (digits_ s (optP 46 (optP 48 (optP 45 l))) hzf hs d o _) [0] rfl rfl ⟨rfl, trivial⟩ ?_⟩
   rintro e H' G' hle ⟨rfl, hout⟩
   cases y1 : digitsP (optP 46 (optP 48 (optP 45 l))) with
   | no er r =>
    rw [y1] at hout
    obtain ⟨rfl, l2, o2, rfl⟩ := hout
    (conv => whnf)
    refine ⟨rfl, ?_⟩
    simp only [numberP, num1, num2, num3, num4, Res.bind, if_true, if_false, Bool.false_eq_true, z, f1, y1]
    exact ⟨rfl, l2, o2, rfl⟩
   | ok x ry1 =>
    rw [y1] at hout
    obtain ⟨hry1, ⟨sv, rfl, rfl⟩, rfl⟩ := hout
    (conv => whnf)
    refine ⟨⟨_, Tryz.func141, rfl, by kernel_rfl⟩, CallS.use (nextB 101 (by decide) s (ry1) hry1 hs d o _) [0] rfl rfl ⟨rfl, trivial⟩ ?_⟩
    rintro e H' G' hle ⟨rfl, rfl, rfl⟩
    have hry1e := optP_sfx (c := 101) hry1
    (conv => whnf)
    cases e3 : tkB 101 (ry1) <;> (conv => whnf)
    ·skip
     refine ⟨⟨_, Tryz.func141, rfl, by kernel_rfl⟩, CallS.use (nextB 69 (by decide) s (optP 101 (ry1)) hry1e hs d o _) [0] rfl rfl ⟨rfl, trivial⟩ ?_⟩
     rintro e H' G' hle ⟨rfl, rfl, rfl⟩
     have hry1E := optP_sfx (c := 69) hry1e
     (conv => whnf)
     cases E3 : tkB 69 (optP 101 (ry1)) <;> (conv => whnf)
     ·skip
      have hfin : numberP l = .ok ⟨(l.take (l.length - (optP 69 (optP 101 (ry1))).length)).toArray⟩ (optP 69 (optP 101 (ry1))) := by
       simp only [numberP, num1, num2, num3, num4, Res.bind, if_true, if_false, Bool.false_eq_true, z, f1, y1, e3, E3]
      have hsl : Sfx (optP 69 (optP 101 (ry1))) l := numberP_sfx hfin
      rw [hfin]
      clear z f1 y1 e3 E3 hfin
      generalize optP 69 (optP 101 (ry1)) = rl at *
      refine WS.draw tab mixed (.take 0 (.take 1 (.take 2 (.take 3 (.take 4 (.take 5 (.take 6 (.take 7 (.take 8 (.take 9 (.take 10 (.alt 11 .done .no)))))))))))) (by kernel_rfl) [1] ?_
      (conv => whnf)
      refine ⟨pos_ord hsl hry1E, ?_⟩
      (conv => whnf)
      repeat' (first | exact trivial | exact rfl | exact ⟨rfl, hry1E, ⟨_, rfl, rfl⟩, rfl⟩ | (rw [cut_eq hl hsl]; exact ⟨rfl, hry1E, ⟨_, rfl, rfl⟩, rfl⟩) | (refine And.intro ?_ ?_ <;> (conv => whnf)))
     ·skip
      refine ⟨⟨_, Tryz.func141, rfl, by kernel_rfl⟩, CallS.use (nextB 43 (by decide) s (optP 69 (optP 101 (ry1))) hry1E hs d o _) [0] rfl rfl ⟨rfl, trivial⟩ ?_⟩
      rintro e H' G' hle ⟨rfl, rfl, rfl⟩
      have hry1Ep := optP_sfx (c := 43) hry1E
      (conv => whnf)
      cases p5 : tkB 43 (optP 69 (optP 101 (ry1))) <;> (conv => whnf)
      ·skip
       refine ⟨⟨_, Tryz.func141, rfl, by kernel_rfl⟩, CallS.use (nextB 45 (by decide) s (optP 43 (optP 69 (optP 101 (ry1)))) hry1Ep hs d o _) [0] rfl rfl ⟨rfl, trivial⟩ ?_⟩
       rintro e H' G' hle ⟨rfl, rfl, rfl⟩
       have hry1Em := optP_sfx (c := 45) hry1Ep
       (conv => whnf)
       refine ⟨⟨_, Tryz.func142, rfl, by kernel_rfl⟩, CallS.use (digits_ s (optP 45 (optP 43 (optP 69 (optP 101 (ry1))))) hry1Em hs d o _) [0] rfl rfl ⟨rfl, trivial⟩ ?_⟩
       rintro e H' G' hle ⟨rfl, hout⟩
       cases x5 : digitsP (optP 45 (optP 43 (optP 69 (optP 101 (ry1))))) with
       | no er r =>
        rw [x5] at hout
        obtain ⟨rfl, l2, o2, rfl⟩ := hout
        (conv => whnf)
        refine ⟨rfl, ?_⟩
        simp only [numberP, num1, num2, num3, num4, Res.bind, if_true, if_false, Bool.false_eq_true, z, f1, y1, e3, E3, p5, x5]
        exact ⟨rfl, l2, o2, rfl⟩
       | ok x rx5 =>
        rw [x5] at hout
        obtain ⟨hrx5, ⟨sv, rfl, rfl⟩, rfl⟩ := hout
        (conv => whnf)
        have hfin : numberP l = .ok ⟨(l.take (l.length - (rx5).length)).toArray⟩ (rx5) := by
         simp only [numberP, num1, num2, num3, num4, Res.bind, if_true, if_false, Bool.false_eq_true, z, f1, y1, e3, E3, p5, x5]
        have hsl : Sfx (rx5) l := numberP_sfx hfin
        rw [hfin]
        clear z f1 y1 e3 E3 p5 x5 hfin
        generalize rx5 = rl at *
        refine WS.draw tab mixed (.take 0 (.take 1 (.take 2 (.take 3 (.take 4 (.take 5 (.take 6 (.take 7 (.take 8 (.take 9 (.take 10 (.alt 11 .done .no)))))))))))) (by kernel_rfl) [1] ?_
        (conv => whnf)
        refine ⟨pos_ord hsl hrx5, ?_⟩
        (conv => whnf)
        repeat' (first | exact trivial | exact rfl | exact ⟨rfl, hrx5, ⟨_, rfl, rfl⟩, rfl⟩ | (rw [cut_eq hl hsl]; exact ⟨rfl, hrx5, ⟨_, rfl, rfl⟩, rfl⟩) | (refine And.intro ?_ ?_ <;> (conv => whnf)))
      ·skip
       refine ⟨⟨_, Tryz.func142, rfl, by kernel_rfl⟩, CallS.use (digits_ s (optP 43 (optP 69 (optP 101 (ry1)))) hry1Ep hs d o _) [0] rfl rfl ⟨rfl, trivial⟩ ?_⟩
       rintro e H' G' hle ⟨rfl, hout⟩
       cases x5 : digitsP (optP 43 (optP 69 (optP 101 (ry1)))) with
       | no er r =>
        rw [x5] at hout
        obtain ⟨rfl, l2, o2, rfl⟩ := hout
        (conv => whnf)
        refine ⟨rfl, ?_⟩
        simp only [numberP, num1, num2, num3, num4, Res.bind, if_true, if_false, Bool.false_eq_true, z, f1, y1, e3, E3, p5, x5]
        exact ⟨rfl, l2, o2, rfl⟩
       | ok x rx5 =>
        rw [x5] at hout
        obtain ⟨hrx5, ⟨sv, rfl, rfl⟩, rfl⟩ := hout
        (conv => whnf)
        have hfin : numberP l = .ok ⟨(l.take (l.length - (rx5).length)).toArray⟩ (rx5) := by
         simp only [numberP, num1, num2, num3, num4, Res.bind, if_true, if_false, Bool.false_eq_true, z, f1, y1, e3, E3, p5, x5]
        have hsl : Sfx (rx5) l := numberP_sfx hfin
        rw [hfin]
        clear z f1 y1 e3 E3 p5 x5 hfin
        generalize rx5 = rl at *
        refine WS.draw tab mixed (.take 0 (.take 1 (.take 2 (.take 3 (.take 4 (.take 5 (.take 6 (.take 7 (.take 8 (.take 9 (.take 10 (.alt 11 .done .no)))))))))))) (by kernel_rfl) [1] ?_
        (conv => whnf)
        refine ⟨pos_ord hsl hrx5, ?_⟩
        (conv => whnf)
        repeat' (first | exact trivial | exact rfl | exact ⟨rfl, hrx5, ⟨_, rfl, rfl⟩, rfl⟩ | (rw [cut_eq hl hsl]; exact ⟨rfl, hrx5, ⟨_, rfl, rfl⟩, rfl⟩) | (refine And.intro ?_ ?_ <;> (conv => whnf)))
    ·skip
     refine ⟨⟨_, Tryz.func141, rfl, by kernel_rfl⟩, CallS.use (nextB 43 (by decide) s (optP 101 (ry1)) hry1e hs d o _) [0] rfl rfl ⟨rfl, trivial⟩ ?_⟩
     rintro e H' G' hle ⟨rfl, rfl, rfl⟩
     have hry1ep := optP_sfx (c := 43) hry1e
     (conv => whnf)
     cases p4 : tkB 43 (optP 101 (ry1)) <;> (conv => whnf)
     ·skip
      refine ⟨⟨_, Tryz.func141, rfl, by kernel_rfl⟩, CallS.use (nextB 45 (by decide) s (optP 43 (optP 101 (ry1))) hry1ep hs d o _) [0] rfl rfl ⟨rfl, trivial⟩ ?_⟩
      rintro e H' G' hle ⟨rfl, rfl, rfl⟩
      have hry1em := optP_sfx (c := 45) hry1ep
      (conv => whnf)
      refine ⟨⟨_, Tryz.func142, rfl, by kernel_rfl⟩, CallS.use (digits_ s (optP 45 (optP 43 (optP 101 (ry1)))) hry1em hs d o _) [0] rfl rfl ⟨rfl, trivial⟩ ?_⟩
      rintro e H' G' hle ⟨rfl, hout⟩
      cases x4 : digitsP (optP 45 (optP 43 (optP 101 (ry1)))) with
      | no er r =>
       rw [x4] at hout
       obtain ⟨rfl, l2, o2, rfl⟩ := hout
       (conv => whnf)
       refine ⟨rfl, ?_⟩
       simp only [numberP, num1, num2, num3, num4, Res.bind, if_true, if_false, Bool.false_eq_true, z, f1, y1, e3, p4, x4]
       exact ⟨rfl, l2, o2, rfl⟩
      | ok x rx4 =>
       rw [x4] at hout
       obtain ⟨hrx4, ⟨sv, rfl, rfl⟩, rfl⟩ := hout
       (conv => whnf)
       have hfin : numberP l = .ok ⟨(l.take (l.length - (rx4).length)).toArray⟩ (rx4) := by
        simp only [numberP, num1, num2, num3, num4, Res.bind, if_true, if_false, Bool.false_eq_true, z, f1, y1, e3, p4, x4]
       have hsl : Sfx (rx4) l := numberP_sfx hfin
       rw [hfin]
       clear z f1 y1 e3 p4 x4 hfin
       generalize rx4 = rl at *
       refine WS.draw tab mixed (.take 0 (.take 1 (.take 2 (.take 3 (.take 4 (.take 5 (.take 6 (.take 7 (.take 8 (.take 9 (.take 10 (.alt 11 .done .no)))))))))))) (by kernel_rfl) [1] ?_
       (conv => whnf)
       refine ⟨pos_ord hsl hrx4, ?_⟩
       (conv => whnf)
       repeat' (first | exact trivial | exact rfl | exact ⟨rfl, hrx4, ⟨_, rfl, rfl⟩, rfl⟩ | (rw [cut_eq hl hsl]; exact ⟨rfl, hrx4, ⟨_, rfl, rfl⟩, rfl⟩) | (refine And.intro ?_ ?_ <;> (conv => whnf)))
     ·skip
      refine ⟨⟨_, Tryz.func142, rfl, by kernel_rfl⟩, CallS.use (digits_ s (optP 43 (optP 101 (ry1))) hry1ep hs d o _) [0] rfl rfl ⟨rfl, trivial⟩ ?_⟩
      rintro e H' G' hle ⟨rfl, hout⟩
      cases x4 : digitsP (optP 43 (optP 101 (ry1))) with
      | no er r =>
       rw [x4] at hout
       obtain ⟨rfl, l2, o2, rfl⟩ := hout
       (conv => whnf)
       refine ⟨rfl, ?_⟩
       simp only [numberP, num1, num2, num3, num4, Res.bind, if_true, if_false, Bool.false_eq_true, z, f1, y1, e3, p4, x4]
       exact ⟨rfl, l2, o2, rfl⟩
      | ok x rx4 =>
       rw [x4] at hout
       obtain ⟨hrx4, ⟨sv, rfl, rfl⟩, rfl⟩ := hout
       (conv => whnf)
       have hfin : numberP l = .ok ⟨(l.take (l.length - (rx4).length)).toArray⟩ (rx4) := by
        simp only [numberP, num1, num2, num3, num4, Res.bind, if_true, if_false, Bool.false_eq_true, z, f1, y1, e3, p4, x4]
       have hsl : Sfx (rx4) l := numberP_sfx hfin
       rw [hfin]
       clear z f1 y1 e3 p4 x4 hfin
       generalize rx4 = rl at *
       refine WS.draw tab mixed (.take 0 (.take 1 (.take 2 (.take 3 (.take 4 (.take 5 (.take 6 (.take 7 (.take 8 (.take 9 (.take 10 (.alt 11 .done .no)))))))))))) (by kernel_rfl) [1] ?_
       (conv => whnf)
       refine ⟨pos_ord hsl hrx4, ?_⟩
       (conv => whnf)
       repeat' (first | exact trivial | exact rfl | exact ⟨rfl, hrx4, ⟨_, rfl, rfl⟩, rfl⟩ | (rw [cut_eq hl hsl]; exact ⟨rfl, hrx4, ⟨_, rfl, rfl⟩, rfl⟩) | (refine And.intro ?_ ?_ <;> (conv => whnf)))
end Go.Kx.Js
