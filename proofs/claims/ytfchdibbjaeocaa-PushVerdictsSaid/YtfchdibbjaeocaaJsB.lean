/- Values as texts: a reader, byte by byte. No condition of its own. -/
import Derived.Test.YtfchdibbjaeocaaJsL
import Derived.Test.YtfchdibbjaeocaaJsA
namespace Go.Kx.Js
open Go.Proofs Go.Kx Go.RowKit
set_option maxRecDepth 20000
def T : Tab := [(49, { k := TK.st [(0, 9, 1), (1, 3, 1), (2, 3, 1), (3, 3, 1)], agg := true, size := 4, bytes := 40, zero := [Z.s, Z.i IntKind.i64, Z.i IntKind.i64, Z.i IntKind.i64] }), (27, { k := TK.st [(0, 3, 1), (1, 4, 1), (2, 9, 1), (3, 24, 1), (4, 25, 1)], agg := true, size := 5, bytes := 80, zero := [Z.i IntKind.i64, Z.b, Z.s, Z.sl, Z.sl] }), (56, { k := TK.st [(0, 9, 1), (1, 27, 5)], agg := true, size := 6, bytes := 96, zero := [Z.s, Z.i IntKind.i64, Z.b, Z.s, Z.sl, Z.sl] }), (51, { k := TK.st [(0, 28, 1), (1, 3, 1)], agg := true, size := 2, bytes := 16, zero := [Z.i IntKind.i64, Z.i IntKind.i64] }), (22, { k := TK.slice 5, agg := false, size := 1, bytes := 24, zero := [Z.sl] }), (3, { k := TK.int IntKind.i64, agg := false, size := 1, bytes := 8, zero := [Z.i IntKind.i64] }), (28, { k := TK.int IntKind.i64, agg := false, size := 1, bytes := 8, zero := [Z.i IntKind.i64] }), (9, { k := TK.string, agg := false, size := 1, bytes := 16, zero := [Z.s] }), (4, { k := TK.bool, agg := false, size := 1, bytes := 1, zero := [Z.b] }), (47, { k := TK.ptr 49, agg := false, size := 1, bytes := 8, zero := [Z.p] }), (54, { k := TK.func, agg := false, size := 1, bytes := 8, zero := [Z.fn] }), (25, { k := TK.slice 56, agg := false, size := 1, bytes := 24, zero := [Z.sl] }), (1, { k := TK.func, agg := false, size := 1, bytes := 8, zero := [Z.fn] }), (5, { k := TK.int IntKind.u8, agg := false, size := 1, bytes := 1, zero := [Z.i IntKind.u8] }), (67, { k := TK.slice 71, agg := false, size := 1, bytes := 24, zero := [Z.sl] }), (71, { k := TK.st [(0, 5, 1), (1, 5, 1)], agg := true, size := 2, bytes := 2, zero := [Z.i IntKind.u8, Z.i IntKind.u8] }), (20, { k := TK.ifc, agg := false, size := 1, bytes := 16, zero := [Z.ifc] }), (21, { k := TK.int IntKind.i32, agg := false, size := 1, bytes := 4, zero := [Z.i IntKind.i32] }), (24, { k := TK.slice 27, agg := false, size := 1, bytes := 24, zero := [Z.sl] }), (86, { k := TK.ptr 27, agg := false, size := 1, bytes := 8, zero := [Z.p] }), (89, { k := TK.int IntKind.u32, agg := false, size := 1, bytes := 4, zero := [Z.i IntKind.u32] })]
set_option maxRecDepth 100000 in
theorem tab : TabOk Try.prog T := tabOk_mk (ts := [49, 27, 56, 51, 22, 3, 28, 9, 4, 47, 54, 25, 1, 5, 67, 71, 20, 21, 24, 86, 89]) (by kernel_rfl)
theorem mixed : Try.prog.follows .mixedOrders = true := by kernel_rfl

def tL (s : ByteArray) : List UInt8 := s.data.toList
theorem size_eq (s : ByteArray) : s.size = (tL s).length := by show s.data.size = s.data.toList.length; rw [Array.length_toList]
/-- Where the rest l of s begins. -/
def pos (s : ByteArray) (l : List UInt8) : Nat := (tL s).length - l.length
theorem pos_le (s : ByteArray) (l : List UInt8) : pos s l ≤ s.size := by rw [size_eq]; unfold pos; omega
theorem pos_nil (s : ByteArray) : pos s [] = s.size := by rw [size_eq]; rfl
theorem pos_lt {s : ByteArray} {c : UInt8} {r : List UInt8} (h : Sfx (c :: r) (tL s)) : pos s (c :: r) < s.size := by
  have := h.le
  rw [size_eq]; unfold pos
  rw [List.length_cons] at *
  omega
theorem pos_tail {s : ByteArray} {c : UInt8} {r : List UInt8} (h : Sfx (c :: r) (tL s)) : pos s r = pos s (c :: r) + 1 := by
  have := h.le
  unfold pos
  rw [List.length_cons] at *
  omega
theorem byte_pos {s : ByteArray} {c : UInt8} {r : List UInt8} (h : Sfx (c :: r) (tL s)) : byteAt s ((pos s (c :: r) : Nat) : Int) = (c.toNat : Int) := by
  have h2 := h.drop
  have h3 : (tL s)[pos s (c :: r)]? = some c := by
    have := congrArg (fun l => l[0]?) h2
    simp only [List.getElem?_drop, Nat.add_zero, List.getElem?_cons_zero] at this
    exact this
  unfold byteAt
  rw [Int.toNat_natCast, List.getD_eq_getElem?_getD]
  show (((tL s)[pos s (c :: r)]?.getD 0).toNat : Int) = _
  rw [h3]; rfl

def rdB (s : ByteArray) (l : List UInt8) (d o : Int) : SB := .box 49 [.val (.string s), .val (.int .i64 ((pos s l : Nat) : Int)), .val (.int .i64 d), .val (.int .i64 o)]
abbrev me : SV := .si (.ce (.ptr 0 0))
def faultV (e : Nat) (p : Nat) : Value := .iface 51 (.agg #[.int .i64 (e : Int), .int .i64 ((p : Nat) : Int)])
/-- What a reading leaves behind. -/
def Out {α : Type} (s : ByteArray) (d o : Int) (Rep : Hp → α → SV → Prop) (res : Res α) (e : SE) (H' : Hp) (G' : List SB) : Prop :=
  match res with
  | .ok x r => Sfx r (tL s) ∧ (∃ sv, e = .ret sv ∧ Rep H' x sv) ∧ G' = [rdB s r d o]
  | .no er r => e = .pan [{ v := faultV er (pos s r), recovered := false }] ∧ ∃ l' o', G' = [rdB s l' d o']
def RU : Hp → Unit → SV → Prop := fun _ _ sv => sv = .tu []

theorem peek_ (s : ByteArray) (l : List UInt8) (hl : Sfx l (tL s)) (d o : Int) (H : Hp) : CallO Try.prog 27 [me] H [rdB s l d o] fun e H' G' => e = .ret (pv (.int .u8 ((pk l).toNat : Int))) ∧ H' = H ∧ G' = [rdB s l d o] := by
  refine CallO.of_body tab Try.func27 rfl (nt := Try.f27.ntmps) rfl (by kernel_rfl) ?_
  (conv => whnf)
  refine WS.draw tab mixed (.take 0 (.take 1 (.take 2 (.take 3 (.take 4 (.take 5 (.take 6 (.take 7 (.take 8 (.take 9 .done)))))))))) (by kernel_rfl) [] ?_
  (conv => whnf)
  refine br.of (fun h1 => ?_) (fun h1 => ?_) <;> (conv => whnf)
  · simp only [beq_iff_eq] at h1
    cases l with
    | nil => exact ⟨rfl, rfl, rfl⟩
    | cons c r => have := pos_lt hl; omega
  · simp only [beq_eq_false_iff_ne, ne_eq] at h1
    refine WS.draw tab mixed (.take 0 (.take 1 (.take 2 (.take 3 (.take 4 (.take 5 (.take 6 (.take 7 (.take 8 (.take 9 .done)))))))))) (by kernel_rfl) [] ?_
    (conv => whnf)
    cases l with
    | nil => exact absurd (by rw [pos_nil]) h1
    | cons c r =>
      have := pos_lt hl
      refine ⟨⟨by omega, by omega⟩, ?_⟩
      have hb := byte_pos hl
      generalize byteAt s _ = v at *
      subst hb
      (conv => whnf)
      exact ⟨rfl, rfl, rfl⟩
theorem fail_ (e p : Int) (s : ByteArray) (l : List UInt8) (d o : Int) (H : Hp) : CallO Try.prog 37 [me, pv (.int .i64 e), pv (.int .i64 p)] H [rdB s l d o] fun x H' G' => x = .pan [{ v := .iface 51 (.agg #[.int .i64 e, .int .i64 p]), recovered := false }] ∧ H' = H ∧ G' = [rdB s l d o] := by
  refine CallO.of_body tab Try.func37 rfl (nt := Try.f37.ntmps) rfl (by kernel_rfl) ?_
  (conv => whnf)
  exact ⟨rfl, rfl, rfl⟩
theorem stop_ (s : ByteArray) (l : List UInt8) (d o : Int) (H : Hp) : CallO Try.prog 23 [me] H [rdB s l d o] fun x H' G' => x = .pan [{ v := faultV 31 (pos s l), recovered := false }] ∧ H' = H ∧ G' = [rdB s l d o] := by
  refine CallO.of_body tab Try.func23 rfl (nt := Try.f23.ntmps) rfl (by kernel_rfl) ?_
  (conv => whnf)
  refine ⟨⟨_, Try.func37, rfl, by kernel_rfl⟩, CallS.use (fail_ 31 (pos s l : Nat) s l d o H) [0] rfl rfl ⟨rfl, trivial⟩ ?_⟩
  rintro e H' G' hle ⟨rfl, rfl, rfl⟩
  (conv => whnf)
  exact ⟨rfl, rfl, rfl⟩
theorem tk_self (c : UInt8) (r : List UInt8) : tk c (c :: r) = some r := by simp only [tk, if_true]
theorem tk_none {c : UInt8} {l : List UInt8} (h : (pk l) ≠ c) : tk c l = none := by
  cases l with
  | nil => rfl
  | cons x r => exact if_neg (show ¬ x = c from h)
theorem tk_pk {c : UInt8} {l : List UInt8} (hc : c ≠ 0) (h : pk l = c) : l = c :: l.tail := by
  cases l with
  | nil => exact absurd h.symm hc
  | cons x r => rw [show x = c from h]; rfl
theorem pos_int {s : ByteArray} {c : UInt8} {r : List UInt8} (h : Sfx (c :: r) (tL s)) : ((pos s (c :: r) : Nat) : Int) + 1 = ((pos s r : Nat) : Int) := by rw [pos_tail h]; rfl
theorem next_ (c : UInt8) (hc : c ≠ 0) (s : ByteArray) (l : List UInt8) (hl : Sfx l (tL s)) (hs : s.size ≤ 1000000) (d o : Int) (H : Hp) : CallO Try.prog 42 [me, pv (.int .u8 (c.toNat : Int))] H [rdB s l d o] fun e H' G' => H' = H ∧
    match tk c l with
    | some r => Sfx r (tL s) ∧ e = .ret (pv (.bool true)) ∧ G' = [rdB s r d o]
    | none => e = .ret (pv (.bool false)) ∧ G' = [rdB s l d o] := by
  refine CallO.of_body tab Try.func42 rfl (nt := Try.f42.ntmps) rfl (by kernel_rfl) ?_
  (conv => whnf)
  refine ⟨⟨_, Try.func27, rfl, by kernel_rfl⟩, CallS.use (peek_ s l hl d o H) [0] rfl rfl ⟨rfl, trivial⟩ ?_⟩
  rintro e H' G' hle ⟨rfl, rfl, rfl⟩
  (conv => whnf)
  refine br.of (fun h1 => ?_) (fun h1 => ?_) <;> (conv => whnf)
  · simp only [bne_iff_ne, ne_eq] at h1
    have : tk c l = none := by
      cases l with
      | nil => rfl
      | cons x r =>
        simp only [tk]
        rw [if_neg]
        intro hx
        subst hx
        exact h1 rfl
    rw [this]
    exact ⟨rfl, rfl, rfl⟩
  · simp only [bne_eq_false_iff_eq] at h1
    cases l with
    | nil => exact absurd (UInt8.toNat_inj.1 (show c.toNat = (0 : UInt8).toNat by simp only [pk] at h1; omega)) hc
    | cons x r =>
      have hx : x = c := UInt8.toNat_inj.1 (by simp only [pk] at h1; omega)
      subst hx
      have hp := pos_tail hl
      have hq := pos_lt hl
      rw [wrap64 (by omega) (by omega)]
      rw [tk_self]
      refine ⟨rfl, hl.tail, rfl, ?_⟩
      show [SB.box _ [_, SC.val (.int .i64 _), _, _]] = [SB.box _ [_, SC.val (.int .i64 _), _, _]]
      rw [hp]; rfl
/-- Behind a step by one byte. -/
theorem rd_step {s : ByteArray} {c : UInt8} {r : List UInt8} (h : Sfx (c :: r) (tL s)) (hs : s.size ≤ 1000000) (d o : Int) : SB.box 49 [.val (.string s), .val (.int .i64 (IntKind.i64.wrap (((pos s (c :: r) : Nat) : Int) + 1))), .val (.int .i64 d), .val (.int .i64 o)] = rdB s r d o := by
  have hq := pos_lt h
  rw [wrap64 (by omega) (by omega), pos_int h]; rfl
theorem must_ (c : UInt8) (hc : c ≠ 0) (s : ByteArray) (l : List UInt8) (hl : Sfx l (tL s)) (hs : s.size ≤ 1000000) (d o : Int) (H : Hp) : CallO Try.prog 41 [me, pv (.int .u8 (c.toNat : Int))] H [rdB s l d o] fun e H' G' => H' = H ∧ Out s d o RU (mustP c l) e H' G' := by
  refine CallO.of_body tab Try.func41 rfl (nt := Try.f41.ntmps) rfl (by kernel_rfl) ?_
  (conv => whnf)
  refine ⟨⟨_, Try.func42, rfl, by kernel_rfl⟩, CallS.use (next_ c hc s l hl hs d o H) [0] rfl rfl ⟨rfl, trivial⟩ ?_⟩
  rintro e H' G' hle ⟨rfl, h⟩
  unfold mustP
  cases ht : tk c l with
  | some r =>
    rw [ht] at h
    obtain ⟨h1, rfl, rfl⟩ := h
    (conv => whnf)
    exact ⟨rfl, h1, ⟨_, rfl, rfl⟩, rfl⟩
  | none =>
    rw [ht] at h
    obtain ⟨rfl, rfl⟩ := h
    (conv => whnf)
    refine ⟨⟨_, Try.func23, rfl, by kernel_rfl⟩, CallS.use (stop_ s l d o _) [0] rfl rfl ⟨rfl, trivial⟩ ?_⟩
    rintro e H2 G' hle2 ⟨rfl, rfl, rfl⟩
    (conv => whnf)
    exact ⟨rfl, rfl, l, o, rfl⟩
theorem blankP_yes {c : UInt8} {r : List UInt8} (h : isBlank c = true) : blankP (c :: r) = blankP r := if_pos h
theorem blankP_no {r : List UInt8} (h : isBlank (pk r) = false) : blankP r = r := by
  cases r with
  | nil => rfl
  | cons c r => exact if_neg (by rw [show isBlank c = false from h]; exact Bool.false_ne_true)
theorem digsP_yes {c : UInt8} {r : List UInt8} (h : isDig c = true) : digsP (c :: r) = digsP r := if_pos h
theorem digsP_no {r : List UInt8} (h : isDig (pk r) = false) : digsP r = r := by
  cases r with
  | nil => rfl
  | cons c r => exact if_neg (by rw [show isDig c = false from h]; exact Bool.false_ne_true)
def blankS : List UInt8 := [32, 9, 10, 13]
theorem ix_blank (c : UInt8) : decide (ixB blankS c ≥ 0) = isBlank c := by
  have h : ∀ n : Fin 256, decide (ixB blankS (UInt8.ofNat n.val) ≥ 0) = isBlank (UInt8.ofNat n.val) := by decide +kernel
  have := h ⟨c.toNat, c.toNat_lt⟩
  simpa using this
theorem blank_ (s : ByteArray) (l : List UInt8) (hl : Sfx l (tL s)) (hs : s.size ≤ 1000000) (d o : Int) (H : Hp) : CallO Try.prog 21 [me] H [rdB s l d o] fun e H' G' => H' = H ∧ e = .ret (.tu []) ∧ G' = [rdB s (blankP l) d o] := by
  refine CallO.of_body tab Try.func21 rfl (nt := Try.f21.ntmps) rfl (by kernel_rfl) ?_
  (conv => whnf)
  refine WS.loop (fun k F H2 G => ∃ r, Sfx r (tL s) ∧ blankP r = blankP l ∧ k = r.length ∧ F = [(0, me)] ∧ H2 = H ∧ G = [rdB s r d o]) (l.length + 1) ?_ ?_
  · refine ⟨l.length, by omega, _, _, [0], ⟨l, hl, rfl, rfl, rfl, rfl, rfl⟩, ?_⟩
    exact ⟨rfl, ⟨rfl, trivial⟩, rfl, trivial⟩
  rintro k F H2 G hle ⟨r, hr, hb, rfl, rfl, rfl, rfl⟩
  refine codeL.go tab ?_
  (conv => whnf)
  refine ⟨⟨_, Try.func27, rfl, by kernel_rfl⟩, CallS.use (peek_ s r hr d o _) [0] rfl rfl ⟨rfl, trivial⟩ ?_⟩
  rintro e H' G' hle ⟨rfl, rfl, rfl⟩
  (conv => whnf)
  refine br.of (fun h1 => ?_) (fun h1 => ?_) <;> (conv => whnf)
  · refine ⟨⟨_, Try.func27, rfl, by kernel_rfl⟩, CallS.use (peek_ s r hr d o _) [0] rfl rfl ⟨rfl, trivial⟩ ?_⟩
    rintro e H' G' hle ⟨rfl, rfl, rfl⟩
    (conv => whnf)
    refine ⟨⟨_, Try.func28, rfl, by kernel_rfl⟩, CallS.use (indexByte ⟨blankS.toArray⟩ (pk r) _ []) [] rfl rfl trivial ?_⟩
    rintro e H' G' hle ⟨rfl, rfl, rfl⟩
    (conv => whnf)
    refine br.of (fun h2 => ?_) (fun h2 => ?_) <;> (conv => whnf)
    all_goals (have h2 := (ix_blank (pk r)).symm.trans h2)
    · cases r with
      | nil => cases h2
      | cons c r =>
        rw [rd_step hr hs]
        refine ⟨r.length, by rw [List.length_cons]; omega, _, _, [0], ⟨r, hr.tail, ?_, rfl, rfl, rfl, rfl⟩, ?_⟩
        · rw [← hb]; exact (blankP_yes h2).symm
        · exact ⟨rfl, ⟨rfl, trivial⟩, rfl, trivial⟩
    · rw [← hb, blankP_no h2]
      exact ⟨rfl, rfl, rfl⟩
  · simp only [bne_eq_false_iff_eq] at h1
    have h2 : pk r = 0 := UInt8.toNat_inj.1 (by show (pk r).toNat = 0; omega)
    rw [← hb, blankP_no (by rw [h2]; rfl)]
    exact ⟨rfl, rfl, rfl⟩
theorem optP_sfx {c : UInt8} {l t : List UInt8} (h : Sfx l t) : Sfx (optP c l) t := by
  unfold optP
  cases ht : tk c l with
  | none => exact h
  | some r => exact (tk_sfx ht).trans h
theorem nextB (c : UInt8) (hc : c ≠ 0) (s : ByteArray) (l : List UInt8) (hl : Sfx l (tL s)) (hs : s.size ≤ 1000000) (d o : Int) (H : Hp) : CallO Try.prog 42 [me, pv (.int .u8 (c.toNat : Int))] H [rdB s l d o] fun e H' G' => H' = H ∧
    e = .ret (pv (.bool (tkB c l))) ∧ G' = [rdB s (optP c l) d o] := by
  refine (next_ c hc s l hl hs d o H).mono ?_
  rintro e H' G' hle ⟨rfl, h⟩
  refine ⟨rfl, ?_⟩
  unfold tkB optP
  cases ht : tk c l with
  | none => rw [ht] at h; exact h
  | some r => rw [ht] at h; exact h.2
theorem digit_ (c : UInt8) (H : Hp) : CallO Try.prog 35 [pv (.int .u8 (c.toNat : Int))] H [] fun e H' G' => H' = H ∧ e = .ret (pv (.bool (isDig c))) ∧ G' = [] := by
  refine CallO.of_body tab Try.func35 rfl (nt := Try.f35.ntmps) rfl (by kernel_rfl) ?_
  (conv => whnf)
  refine br.of (fun h1 => ?_) (fun h1 => ?_) <;> (conv => whnf)
  · simp only [ge_iff_le, decide_eq_true_eq] at h1
    refine ⟨rfl, ?_, rfl⟩
    show SE.ret (pv (.bool _)) = SE.ret (pv (.bool _))
    unfold isDig
    rw [decide_eq_true (show 48 ≤ c.toNat by omega), Bool.true_and]
    congr 3
    exact decide_eq_decide.2 (by omega)
  · simp only [ge_iff_le, decide_eq_false_iff_not] at h1
    refine ⟨rfl, ?_, rfl⟩
    show SE.ret (pv (.bool _)) = SE.ret (pv (.bool _))
    unfold isDig
    rw [decide_eq_false (show ¬ 48 ≤ c.toNat by omega), Bool.false_and]
theorem digits_ (s : ByteArray) (l : List UInt8) (hl : Sfx l (tL s)) (hs : s.size ≤ 1000000) (d o : Int) (H : Hp) : CallO Try.prog 49 [me] H [rdB s l d o] fun e H' G' => H' = H ∧ Out s d o RU (digitsP l) e H' G' := by
  refine CallO.of_body tab Try.func49 rfl (nt := Try.f49.ntmps) rfl (by kernel_rfl) ?_
  (conv => whnf)
  refine ⟨⟨_, Try.func27, rfl, by kernel_rfl⟩, CallS.use (peek_ s l hl d o H) [0] rfl rfl ⟨rfl, trivial⟩ ?_⟩
  rintro e H' G' hle ⟨rfl, rfl, rfl⟩
  (conv => whnf)
  refine ⟨⟨_, Try.func35, rfl, by kernel_rfl⟩, CallS.use (digit_ (pk l) _) [] rfl rfl trivial ?_⟩
  rintro e H' G' hle ⟨rfl, rfl, rfl⟩
  (conv => whnf)
  unfold digitsP
  cases hd : isDig (pk l) <;> (conv => whnf)
  · refine ⟨⟨_, Try.func23, rfl, by kernel_rfl⟩, CallS.use (stop_ s l d o _) [0] rfl rfl ⟨rfl, trivial⟩ ?_⟩
    rintro e H2 G' hle2 ⟨rfl, rfl, rfl⟩
    (conv => whnf)
    exact ⟨rfl, rfl, l, o, rfl⟩
  · refine WS.loop (fun k F H2 G => ∃ r, Sfx r (tL s) ∧ digsP r = digsP l ∧ k = r.length ∧ F = [(0, me)] ∧ H2 = H' ∧ G = [rdB s r d o]) (l.length + 1) ?_ ?_
    · refine ⟨l.length, by omega, _, _, [0], ⟨l, hl, rfl, rfl, rfl, rfl, rfl⟩, ?_⟩
      exact ⟨rfl, ⟨rfl, trivial⟩, rfl, trivial⟩
    rintro k F H2 G hle ⟨r, hr, hb, rfl, rfl, rfl, rfl⟩
    refine codeL.go tab ?_
    (conv => whnf)
    refine ⟨⟨_, Try.func27, rfl, by kernel_rfl⟩, CallS.use (peek_ s r hr d o _) [0] rfl rfl ⟨rfl, trivial⟩ ?_⟩
    rintro e H' G' hle ⟨rfl, rfl, rfl⟩
    (conv => whnf)
    refine ⟨⟨_, Try.func35, rfl, by kernel_rfl⟩, CallS.use (digit_ (pk r) _) [] rfl rfl trivial ?_⟩
    rintro e H' G' hle ⟨rfl, rfl, rfl⟩
    (conv => whnf)
    cases h2 : isDig (pk r) <;> (conv => whnf)
    · refine ⟨rfl, ?_⟩
      show Out s d o RU (Res.ok () (digsP l)) _ _ _
      rw [← hb, digsP_no h2]
      exact ⟨hr, ⟨_, rfl, rfl⟩, rfl⟩
    · cases r with
      | nil => cases h2
      | cons c r =>
        rw [rd_step hr hs]
        refine ⟨r.length, by rw [List.length_cons]; omega, _, _, [0], ⟨r, hr.tail, ?_, rfl, rfl, rfl, rfl⟩, ?_⟩
        · rw [← hb]; exact (digsP_yes h2).symm
        · exact ⟨rfl, ⟨rfl, trivial⟩, rfl, trivial⟩
theorem word_ (w : ByteArray) (hw : w.data.toList.all (fun c => c != 0) = true) (hw2 : w.size ≤ 100) (s : ByteArray) (l : List UInt8) (hl : Sfx l (tL s)) (hs : s.size ≤ 1000000) (d o : Int) (H : Hp) : CallO Try.prog 29 [me, pv (.string w)] H [rdB s l d o] fun e H' G' => H' = H ∧ Out s d o RU (wordP w.data.toList l) e H' G' := by
  refine CallO.of_body tab Try.func29 rfl (nt := Try.f29.ntmps) rfl (by kernel_rfl) ?_
  (conv => whnf)
  refine WS.loop (fun k F H2 G => ∃ (i : Nat) (r : List UInt8), Sfx r (tL s) ∧ i ≤ w.size ∧ wordP (w.data.toList.drop i) r = wordP w.data.toList l ∧ k = w.size - i ∧ F = [(0, me), (1, pv (.string w)), (6, pv (.int .i64 w.size)), (7, pv (.int .i64 i))] ∧ H2 = H ∧ G = [rdB s r d o]) (w.size + 1) ?_ ?_
  · refine ⟨w.size, by omega, _, _, [0], ⟨0, l, hl, by omega, rfl, rfl, rfl, rfl, rfl⟩, ?_⟩
    exact ⟨rfl, ⟨rfl, trivial⟩, rfl, rfl, rfl, rfl, trivial⟩
  rintro k F H2 G hle ⟨i, r, hr, hi, hb, rfl, rfl, rfl, rfl⟩
  refine codeL.go tab ?_
  (conv => whnf)
  refine br.of (fun h1 => ?_) (fun h1 => ?_) <;> (conv => whnf)
  · simp only [decide_eq_true_eq] at h1
    have hi2 : i < w.data.toList.length := by have := size_eq w; unfold tL at this; omega
    refine ⟨⟨by omega, by omega⟩, ?_⟩
    have hv : byteAt w (i : Int) = ((w.data.toList[i]).toNat : Int) := by
      unfold byteAt
      rw [Int.toNat_natCast, List.getD_eq_getElem?_getD, List.getElem?_eq_getElem hi2]; rfl
    generalize byteAt w (i : Int) = v at *
    subst hv
    (conv => whnf)
    have hc : w.data.toList[i] ≠ 0 := by
      have := List.all_eq_true.1 hw _ (List.getElem_mem hi2)
      simpa using this
    have hdr : w.data.toList.drop i = w.data.toList[i] :: w.data.toList.drop (i + 1) := List.drop_eq_getElem_cons hi2
    refine ⟨⟨_, Try.func41, rfl, by kernel_rfl⟩, CallS.use (must_ _ hc s r hr hs d o _) [0] rfl rfl ⟨rfl, trivial⟩ ?_⟩
    rintro e H' G' hle ⟨rfl, hout⟩
    rw [hdr] at hb
    simp only [wordP] at hb
    cases hm : mustP w.data.toList[i] r with
    | no er r2 =>
      rw [hm] at hout hb
      obtain ⟨rfl, l2, o2, rfl⟩ := hout
      (conv => whnf)
      refine ⟨rfl, ?_⟩
      rw [← hb]
      exact ⟨rfl, l2, o2, rfl⟩
    | ok x r2 =>
      rw [hm] at hout hb
      obtain ⟨hr2, ⟨sv, rfl, rfl⟩, rfl⟩ := hout
      (conv => whnf)
      rw [wrap64 (by omega) (by omega)]
      refine ⟨w.size - (i + 1), by omega, _, _, [0], ⟨i + 1, r2, hr2, by omega, hb, rfl, rfl, rfl, rfl⟩, ?_⟩
      exact ⟨rfl, ⟨rfl, trivial⟩, rfl, rfl, rfl, rfl, trivial⟩
  · simp only [decide_eq_false_iff_not] at h1
    refine ⟨rfl, ?_⟩
    rw [← hb, List.drop_of_length_le (by have := size_eq w; unfold tL at this; omega)]
    exact ⟨hr, ⟨_, rfl, rfl⟩, rfl⟩
end Go.Kx.Js
