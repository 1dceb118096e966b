/- Tokens: whether bytes are the same; whether a key signed a token. No condition of its own. -/
import Derived.Test.YtdknmcaemebgfaaGreatDoorMX15
import Derived.DeepKeys
import Derived.Laws.StructEq
import Derived.Lib.SlBytesConst
namespace Go.Kx.Jw
open Go.Proofs Go.Kx Go.RowKit Go.Kx.Js Go.Kx.Pr Go.Kx.Rt Go.Kx.Ob Go.Kx.Wo Go.Kx.Cl Go.Kx.Pa Go.Kx.En Go.Kx.Sha Go.Kx.Ro Go.Kx.Su
set_option maxRecDepth 20000
set_option linter.unusedSimpArgs false
namespace Eq
def T : Tab := [(5, { k := TK.int IntKind.u8, agg := false, size := 1, bytes := 1, zero := [Z.i IntKind.u8] }), (95, { k := TK.st [(0, 91, 2), (2, 55, 1), (3, 9, 1), (4, 55, 1)], agg := true, size := 5, bytes := 96, zero := [Z.s, Z.s, Z.sl, Z.s, Z.sl] }), (91, { k := TK.st [(0, 9, 1), (1, 9, 1)], agg := true, size := 2, bytes := 32, zero := [Z.s, Z.s] }), (9, { k := TK.string, agg := false, size := 1, bytes := 16, zero := [Z.s] }), (55, { k := TK.slice 5, agg := false, size := 1, bytes := 24, zero := [Z.sl] }), (35, { k := TK.int IntKind.i64, agg := false, size := 1, bytes := 8, zero := [Z.i IntKind.i64] }), (4, { k := TK.bool, agg := false, size := 1, bytes := 1, zero := [Z.b] }), (3, { k := TK.int IntKind.i64, agg := false, size := 1, bytes := 8, zero := [Z.i IntKind.i64] }), (155, { k := TK.slice 55, agg := false, size := 1, bytes := 24, zero := [Z.sl] })]
set_option maxRecDepth 100000 in
theorem tab : TabOk Tryz.prog T := tabOk_mk (ts := [5, 95, 91, 9, 55, 35, 4, 3, 155]) (by kernel_rfl)
end Eq
theorem bytesV {H : Hp} {A : Option Addr} {n : Nat} {a : List UInt8} (h : BytesAt H A n a) : VAt H A n (bCells a) := ⟨by rw [bCells_length]; exact h.1, fun e => by rw [h.2.1 e]; rfl, h.2.2⟩
theorem bCells_at (a : List UInt8) (i : Nat) (h : i < a.length) : (bCells a)[i]? = some (.int .u8 (a[i]'h).toNat) := by unfold bCells; simp [h]
theorem or8' (a b : UInt8) : IntKind.u8.wrap ((BitVec.ofInt IntKind.u8.bits (a.toNat : Int) ||| BitVec.ofInt IntKind.u8.bits (b.toNat : Int)).toNat : Int) = ((a ||| b).toNat : Int) := by
 have h1 : BitVec.ofInt IntKind.u8.bits (a.toNat : Int) = a.toBitVec := by
  show BitVec.ofInt 8 _ = _
  rw [BitVec.ofInt_natCast]; simp
 have h2 : BitVec.ofInt IntKind.u8.bits (b.toNat : Int) = b.toBitVec := by
  show BitVec.ofInt 8 _ = _
  rw [BitVec.ofInt_natCast]; simp
 rw [h1, h2]
 have := (a ||| b).toNat_lt
 show ((a ||| b).toNat : Int) % 256 = _
 omega
theorem or_zero (a b : UInt8) : a ||| b = 0 ↔ a = 0 ∧ b = 0 := by
 constructor
 ·intro h
  have h1 := congrArg UInt8.toBitVec h
  simp only [UInt8.toBitVec_or] at h1
  have h2 : (0 : UInt8).toBitVec = 0#8 := rfl
  rw [h2, BitVec.or_eq_zero_iff] at h1
  exact ⟨UInt8.eq_of_toBitVec_eq h1.1, UInt8.eq_of_toBitVec_eq h1.2⟩
 ·rintro ⟨rfl, rfl⟩; rfl
theorem xor_zero (a b : UInt8) : a ^^^ b = 0 ↔ a = b := by
 constructor
 ·intro h
  have h1 := congrArg UInt8.toBitVec h
  simp only [UInt8.toBitVec_xor] at h1
  have h2 : (0 : UInt8).toBitVec = 0#8 := rfl
  rw [h2, BitVec.xor_eq_zero_iff] at h1
  exact UInt8.eq_of_toBitVec_eq h1
 ·rintro rfl; simp
theorem equal_ (a b : List UInt8) (A : Option Addr) (n c : Nat) (B : Option Addr) (m d : Nat) (hn : n ≤ 1000000) (hm : m ≤ 1000000) (H : Hp) (ha : BytesAt H A n a) (hb : BytesAt H B m b) :
  CallO Tryz.prog 90 [pv (.slice A n c), pv (.slice B m d)] H [] fun e H' G' => e = .ret (pv (.bool (decide (a = b)))) ∧ H' = H ∧ G' = [] := by
 have ha1 := ha.1
 have hb1 := hb.1
 refine CallO.of_body Eq.tab Tryz.func90 rfl (nt := Tryz.f90.ntmps) rfl (by kernel_rfl) ?_
 (conv => whnf)
 refine br.of (fun h1 => ?_) (fun h1 => ?_) <;> (conv => whnf)
 ·simp only [bne_iff_ne, ne_eq] at h1
  rw [decide_eq_false (fun h => h1 (by rw [ha1, hb1, h]))]
  exact ⟨rfl, rfl, rfl⟩
 simp only [bne_eq_false_iff_eq] at h1
 refine WS.loop (fun k' F H3 G => ∃ (i : Nat) (x : UInt8), i ≤ n ∧ (x = 0 ↔ a.take i = b.take i) ∧ k' = n - i ∧ F = [(0, pv (.slice A n c)), (1, pv (.slice B m d)), (5, pv (.int .u8 x.toNat)), (13, pv (.int .i64 n)), (14, pv (.int .i64 i))] ∧ H3 = H ∧ G = []) (n + 1) ?_ ?_
 ·refine ⟨n, by omega, _, _, [], ⟨0, 0, by omega, ⟨fun _ => by simp, fun _ => rfl⟩, rfl, rfl, rfl, rfl⟩, ?_⟩
  exact ⟨rfl, trivial, rfl, rfl, rfl, rfl, rfl, trivial⟩
 rintro k' F H3 G hle3 ⟨i, x, hi, hx, rfl, rfl, rfl, rfl⟩
 refine codeL.go Eq.tab ?_
 (conv => whnf)
 refine br.of (fun h7 => ?_) (fun h7 => ?_) <;> (conv => whnf)
 ·have h7 := of_decide_eq_true h7
  refine WS.draw Eq.tab mixed (.take 0 (.take 1 (.take 2 (.take 3 (.take 4 (.take 5 (.take 6 (.take 7 (.take 8 (.take 9 (.take 10 (.take 11 .done)))))))))))) (by kernel_rfl) [] ?_
  (conv => whnf)
  have hin : i < n := by omega
  have hia : i < a.length := by omega
  have hib : i < b.length := by omega
  have ga := bCells_at a i hia
  have gb := bCells_at b i hib
  have ta : a.take (i + 1) = a.take i ++ [a[i]'hia] := by rw [List.take_add_one, List.getElem?_eq_getElem hia]; rfl
  have tb : b.take (i + 1) = b.take i ++ [b[i]'hib] := by rw [List.take_add_one, List.getElem?_eq_getElem hib]; rfl
  generalize a[i]'hia = p at ga ta
  generalize b[i]'hib = q at gb tb
  have ho : (i : Int).toNat * 1 = i := by omega
  refine ⟨⟨by omega, by omega⟩, (bytesV ha).addr (by omega), ?_⟩
  (conv => whnf)
  refine ⟨_, (bytesV ha).get ga ho, ?_⟩
  (conv => whnf)
  refine ⟨⟨by omega, by omega⟩, (bytesV hb).addr (by omega), ?_⟩
  (conv => whnf)
  refine ⟨_, (bytesV hb).get gb ho, ?_⟩
  (conv => whnf)
  rw [xor8]
  (conv => whnf)
  rw [or8', wrap64 (x := (i : Int) + 1) (by omega) (by omega)]
  refine ⟨n - (i + 1), by omega, _, _, [], ⟨i + 1, x ||| (p ^^^ q), by omega, ?_, rfl, rfl, rfl, rfl⟩, ?_⟩
  ·rw [or_zero, xor_zero, hx, ta, tb]
   constructor
   ·rintro ⟨h1, h2⟩; rw [h1, h2]
   ·intro h
    have := List.append_inj h (by simp only [List.length_take]; omega)
    exact ⟨this.1, by simpa using this.2⟩
  ·exact ⟨rfl, trivial, rfl, rfl, rfl, rfl, rfl, trivial⟩
 ·have h7 := of_decide_eq_false h7
  obtain rfl : i = n := by omega
  rw [List.take_of_length_le (by omega), List.take_of_length_le (by omega)] at hx
  refine ⟨congrArg (fun b => SE.ret (pv (.bool b))) ?_, rfl, rfl⟩
  rw [Bool.eq_iff_iff, beq_iff_eq, decide_eq_true_eq, ← hx]
  constructor
  ·intro h; exact UInt8.toNat_inj.1 (by show x.toNat = 0; omega)
  ·intro h; subst h; rfl
theorem tok3_err {a b c : List UInt8} {x : Int} (h : tok3 a b c = .error x) : x = 10 ∨ x = 42 := by
 unfold tok3 at h
 split at h
 ·split at h
  ·split at h
   ·split at h
    ·split at h
     ·cases h
     ·injection h with h; exact .inr h.symm
    ·injection h with h; exact .inl h.symm
   ·injection h with h; exact .inl h.symm
  ·injection h with h; exact .inl h.symm
 ·injection h with h; exact .inl h.symm
theorem parts_err {s : ByteArray} {x : Int} (h : partsP s = .error x) : x = 10 ∨ x = 11 ∨ x = 42 := by
 unfold partsP at h
 split at h
 ·injection h with h; exact .inr (.inl h.symm)
 split at h
 ·rcases tok3_err h with h | h
  ·exact .inl h
  ·exact .inr (.inr h)
 ·injection h with h; exact .inl h.symm
theorem verify_ (s : ByteArray) (hs : s.size ≤ 1000000) (key : List UInt8) (B : Option Addr) (m d : Nat) (hm : m ≤ 1000000) (H : Hp) (hk : BytesAt H B m key) :
  CallO Tryz.prog 54 [pv (.string s), pv (.slice B m d)] H [] fun e H' G' => RTk (verifyP s key) e H' ∧ H.Le H' ∧ G' = [] := by
 have hp := parse_ s hs
 have hk1 := hk.1
 have hsz : ∀ t, partsP s = .ok t → t.signed.length ≤ 1000000 ∧ t.tag.length = 32 := by
  intro t ht
  have hpl := partsL_mem 46 s.data.toList []
  have hsl : s.data.toList.length = s.size := by rw [Array.length_toList]; rfl
  unfold partsP at ht
  split at ht
  ·cases ht
  split at ht
  ·rename_i a b c hP
   rw [hP] at hpl
   have h1 := hpl a (by simp)
   have h2 := hpl b (by simp)
   simp only [List.length_nil] at h1 h2
   unfold tok3 at ht
   split at ht
   ·split at ht
    ·split at ht
     ·split at ht
      ·split at ht
       ·injection ht with ht
        rename_i hlen _
        rw [← ht]
        simp only [List.length_append, List.length_cons]
        exact ⟨by omega, hlen.2⟩
       ·cases ht
      ·cases ht
     ·cases ht
    ·cases ht
   ·cases ht
  ·cases ht
 have herr : ∀ x, partsP s = .error x → x ≠ 0 := fun x hx => by rcases parts_err hx with h | h | h <;> omega
 unfold verifyP
 generalize partsP s = X at hp hsz herr ⊢
 refine CallO.of_body Eq.tab Tryz.func54 rfl (nt := Tryz.f54.ntmps) rfl (by kernel_rfl) ?_
 (conv => whnf)
 refine ⟨⟨_, Tryz.func89, rfl, by kernel_rfl⟩, CallS.use (hp H) [] rfl rfl trivial ?_⟩
 rintro e H2 G' hle2 ⟨hout, hle2', rfl⟩
 cases X with
 | error x =>
  have hx := herr x rfl
  obtain rfl := hout
  (conv => whnf)
  refine br.of (fun h1 => ?_) (fun h1 => ?_) <;> (conv => whnf)
  ·exact ⟨rfl, hle2, rfl⟩
  ·simp only [bne_eq_false_iff_eq] at h1
   exact absurd h1 hx
 | ok tk =>
  have hsg := (hsz tk rfl).1
  have htg := (hsz tk rfl).2
  obtain ⟨A, n, c, B1, m1, d1, rfl, hb1, hb2⟩ := hout
  dsimp only
  (conv => whnf)
  refine br.of (fun h1 => ?_) (fun h1 => ?_) <;> (conv => whnf)
  ·have h1 := of_decide_eq_true h1
   rw [if_pos (by omega)]
   exact ⟨rfl, hle2, rfl⟩
  have h1 := of_decide_eq_false h1
  rw [if_neg (by omega)]
  refine WS.draw Eq.tab mixed (.take 0 (.take 1 (.take 2 (.take 3 (.take 4 (.alt 5 (.alt 6 (.alt 7 (.alt 8 (.take 9 (.take 10 .done)) .no) .no) .no) .no)))))) (by kernel_rfl) [] ?_
  (conv => whnf)
  repeat' (first
   | exact trivial
   | exact rfl
   | exact ⟨rfl, rfl, trivial⟩
   | exact ⟨_, Tryz.func85, rfl, by kernel_rfl⟩
   | exact ⟨_, Tryz.func90, rfl, by kernel_rfl⟩
   | exact Nat.le_of_ble_eq_true rfl
   | (intro g2 cap2 H6 hle6 hcap2 hrd2; rw [bs_cells] at hrd2; (conv => whnf))
   | (refine .inl ?_; intro g3 H7 hle7 hrd3; (conv => whnf))
   | (refine And.intro ?_ ?_ <;> (conv => whnf)))
  have hleA := (hle2.trans hle6).trans hle7
  refine CallS.use (Sha.code key [tk.signed] B (some ⟨g3, 0, none⟩) m d 1 1 H7 (hk.mono hleA) ⟨_, rfl, hrd3, .cons ⟨_, _, _, rfl, (BytesAt.lit (bs_size _) hrd2).mono hle7⟩ .nil⟩ hm (by decide) (by simp only [List.flatten_cons, List.flatten_nil, List.append_nil]; omega)) [] rfl rfl trivial ?_
  rintro e H8 G' hle8 ⟨⟨B8, m8, c8, rfl, hb8⟩, rfl⟩
  have hm8 := hb8.1
  simp only [List.flatten_cons, List.flatten_nil, List.append_nil] at hb8 hm8
  have l4 : (hmac key tk.signed).length = 32 := sha_length _
  have hleB := (hle6.trans hle7).trans hle8
  have hleC := hle2.trans hleB
  have hb2' := hb2.mono hleB
  have hb1' := hb1.mono hleB
  have heq := equal_ tk.tag (hmac key tk.signed) B1 m1 d1 B8 m8 c8 (by have := hb2.1; omega) (by omega) H8 hb2' hb8
  have hd : decide (tk.tag = hmac key tk.signed) = true ∨ decide (tk.tag = hmac key tk.signed) = false := by cases decide (tk.tag = hmac key tk.signed) <;> simp
  rcases hd with hd | hd
  ·rw [hd] at heq
   rw [if_pos (of_decide_eq_true hd)]
   (conv => whnf)
   repeat' (first
    | exact trivial
    | exact rfl
    | exact ⟨rfl, rfl, trivial⟩
    | exact ⟨_, Tryz.func90, rfl, by kernel_rfl⟩
    | (refine CallS.use heq [] rfl rfl trivial ?_; rintro e H9 G' hle9 ⟨rfl, rfl, rfl⟩; (conv => whnf))
    | exact ⟨⟨_, _, _, _, _, _, rfl, hb1', hb2'⟩, hleC, rfl⟩
    | (refine And.intro ?_ ?_ <;> (conv => whnf)))
  ·rw [hd] at heq
   rw [if_neg (of_decide_eq_false hd)]
   (conv => whnf)
   repeat' (first
    | exact trivial
    | exact rfl
    | exact ⟨rfl, rfl, trivial⟩
    | exact ⟨_, Tryz.func90, rfl, by kernel_rfl⟩
    | (refine CallS.use heq [] rfl rfl trivial ?_; rintro e H9 G' hle9 ⟨rfl, rfl, rfl⟩; (conv => whnf))
    | exact ⟨rfl, hleC, rfl⟩
    | (refine And.intro ?_ ?_ <;> (conv => whnf)))
end Go.Kx.Jw
namespace Go.Kx.Se
open Go.Proofs Go.Kx Go.RowKit Go.Kx.Js Go.Kx.Pr Go.Kx.Rt Go.Kx.Ob Go.Kx.Wo Go.Kx.Cl Go.Kx.Pa Go.Kx.Su Go.Kx.Jw
set_option maxRecDepth 20000
set_option linter.unusedSimpArgs false
namespace Sg
def T : Tab := [(25, { k := TK.st [(0, 9, 1), (1, 9, 1), (2, 9, 1), (3, 3, 1), (4, 9, 1), (5, 23, 3), (8, 3, 1), (9, 9, 1)], agg := true, size := 10, bytes := 144, zero := [Z.s, Z.s, Z.s, Z.i IntKind.i64, Z.s, Z.s, Z.s, Z.s, Z.i IntKind.i64, Z.s] }), (34, { k := TK.st [(0, 3, 1), (1, 4, 1), (2, 9, 1), (3, 31, 1), (4, 32, 1)], agg := true, size := 5, bytes := 80, zero := [Z.i IntKind.i64, Z.b, Z.s, Z.sl, Z.sl] }), (95, { k := TK.st [(0, 91, 2), (2, 55, 1), (3, 9, 1), (4, 55, 1)], agg := true, size := 5, bytes := 96, zero := [Z.s, Z.s, Z.sl, Z.s, Z.sl] }), (91, { k := TK.st [(0, 9, 1), (1, 9, 1)], agg := true, size := 2, bytes := 32, zero := [Z.s, Z.s] }), (5, { k := TK.int IntKind.u8, agg := false, size := 1, bytes := 1, zero := [Z.i IntKind.u8] }), (9, { k := TK.string, agg := false, size := 1, bytes := 16, zero := [Z.s] }), (23, { k := TK.st [(0, 9, 1), (1, 9, 1), (2, 9, 1)], agg := true, size := 3, bytes := 48, zero := [Z.s, Z.s, Z.s] }), (55, { k := TK.slice 5, agg := false, size := 1, bytes := 24, zero := [Z.sl] }), (35, { k := TK.int IntKind.i64, agg := false, size := 1, bytes := 8, zero := [Z.i IntKind.i64] }), (4, { k := TK.bool, agg := false, size := 1, bytes := 1, zero := [Z.b] }), (3, { k := TK.int IntKind.i64, agg := false, size := 1, bytes := 8, zero := [Z.i IntKind.i64] }), (31, { k := TK.slice 34, agg := false, size := 1, bytes := 24, zero := [Z.sl] }), (32, { k := TK.slice 52, agg := false, size := 1, bytes := 24, zero := [Z.sl] }), (52, { k := TK.st [(0, 9, 1), (1, 34, 5)], agg := true, size := 6, bytes := 96, zero := [Z.s, Z.i IntKind.i64, Z.b, Z.s, Z.sl, Z.sl] })]
set_option maxRecDepth 100000 in
theorem tab : TabOk Tryz.prog T := tabOk_mk (ts := [25, 34, 95, 91, 5, 9, 23, 55, 35, 4, 3, 31, 32, 52]) (by kernel_rfl)
end Sg
theorem print_cl {c : Clm} (h : RightC c) : printP (clJ c) = (⟨(wrJ (clJ c)).toArray⟩, 0) := by unfold printP; rw [if_pos (cl_right h)]
theorem sign0 (a b c : ByteArray) (n : Int) (t f i o : ByteArray) (k : Int) (r : ByteArray) (hk : -9223372036854775808 ≤ k ∧ k ≤ 9223372036854775807) (kid : ByteArray) (key : List UInt8) (B : Option Addr) (d : Nat) (hm : key.length ≤ 1000000) (H : Hp) (hb : BytesZ H B key.length key) :
  CallO Tryz.prog 20 [.si (.ag (cs10 a b c n t f i o k r)), pv (.string kid), pv (.slice B key.length d)] H [] fun e H' G' => e = .ret (.tu [.ce (.val (.string (csignP ⟨a, b, c, n, t, ⟨f, i, o⟩, k, r⟩ kid key).1)), .ce (.val (.int .i64 (csignP ⟨a, b, c, n, t, ⟨f, i, o⟩, k, r⟩ kid key).2))]) ∧ H.Le H' ∧ G' = [] := by
 have hv := value0 a b c n t f i o k r hk
 have hri := right_iff ⟨a, b, c, n, t, ⟨f, i, o⟩, k, r⟩
 unfold valP at hv
 unfold csignP
 generalize (⟨a, b, c, n, t, ⟨f, i, o⟩, k, r⟩ : Clm) = C at hv hri ⊢
 refine CallO.of_body Sg.tab Tryz.func20 rfl (nt := Tryz.f20.ntmps) rfl (by kernel_rfl) ?_
 (conv => whnf)
 refine ⟨⟨_, Tryz.func10, rfl, by kernel_rfl⟩, CallS.use (hv H) [] rfl rfl trivial ?_⟩
 rintro e H1 G' hle1 ⟨⟨k2, y2, t2, A2, n2, c2, B2, m2, d2, rfl, hj2⟩, hle1', rfl⟩
 cases hr : clRight C
 all_goals
  rw [hr] at hj2
  (conv => whnf)
 ·exact ⟨rfl, hle1, rfl⟩
 rw [if_neg (show ¬ (true = false) by decide)]
 have hR := hri.1 hr
 have hpr := print_ (clJ C) (cl_sm hR) (cl_wr6 hR) k2 y2 t2 A2 n2 c2 B2 m2 d2 H1 hj2
 rw [print_cl hR] at hpr
 have hl := cl_wrl hR
 refine ⟨⟨_, Tryz.func13, rfl, by kernel_rfl⟩, CallS.use hpr [] rfl rfl trivial ?_⟩
 rintro e H2 G' hle2 ⟨rfl, hle2', rfl⟩
 (conv => whnf)
 intro g cap H3 hle3 hcap hrd
 rw [bs_cells] at hrd
 rw [bs_size]
 (conv => whnf)
 have hleA := (hle1.trans hle2).trans hle3
 refine ⟨⟨_, Tryz.func50, rfl, by kernel_rfl⟩, CallS.use (Jw.signZ_ kid sType (wrJ (clJ C)) key (some ⟨g, 0, none⟩) cap B d (by omega) hm H3 (BytesAt.lit rfl hrd).z (hb.mono hleA)) [] rfl rfl trivial ?_⟩
 rintro e H4 G' hle4 ⟨rfl, hle4', rfl⟩
 (conv => whnf)
 exact ⟨rfl, hleA.trans hle4, rfl⟩
theorem signZ_ (C : Clm) (hk : -9223372036854775808 ≤ C.kind ∧ C.kind ≤ 9223372036854775807) (kid : ByteArray) (key : List UInt8) (B : Option Addr) (d : Nat) (hm : key.length ≤ 1000000) (H : Hp) (hb : BytesZ H B key.length key) :
  CallO Tryz.prog 20 [agC C, pv (.string kid), pv (.slice B key.length d)] H [] fun e H' G' => e = .ret (.tu [.ce (.val (.string (csignP C kid key).1)), .ce (.val (.int .i64 (csignP C kid key).2))]) ∧ H.Le H' ∧ G' = [] :=
 sign0 C.iss C.jti C.aud C.iat C.txn C.sub.fmt C.sub.id C.sub.own C.kind C.reason hk kid key B d hm H hb
theorem sign_ (C : Clm) (hk : -9223372036854775808 ≤ C.kind ∧ C.kind ≤ 9223372036854775807) (kid : ByteArray) (key : List UInt8) (B : Option Addr) (d : Nat) (hm : key.length ≤ 1000000) (H : Hp) (hb : BytesAt H B key.length key) :
  CallO Tryz.prog 20 [agC C, pv (.string kid), pv (.slice B key.length d)] H [] fun e H' G' => e = .ret (.tu [.ce (.val (.string (csignP C kid key).1)), .ce (.val (.int .i64 (csignP C kid key).2))]) ∧ H.Le H' ∧ G' = [] :=
 signZ_ C hk kid key B d hm H hb.z
def RCl (x : Except Int Clm) (e : SE) : Prop := match x with
 | .ok c => e = .ret (.tu [.ag (csC c), .ce (.val (.int .i64 0))])
 | .error x => e = .ret (.tu [.ag (csC clm0), .ce (.val (.int .i64 x))])
theorem verify_err {s : ByteArray} {key : List UInt8} {x : Int} (h : verifyP s key = .error x) : x ≠ 0 := by
 unfold verifyP at h
 split at h
 ·rename_i e he
  injection h with h
  rcases parts_err he with h1 | h1 | h1 <;> omega
 ·split at h
  ·injection h with h; omega
  ·split at h
   ·cases h
   ·injection h with h; omega
theorem verify_len {s : ByteArray} {key : List UInt8} {t : Tok} (h : verifyP s key = .ok t) : t.payload.length ≤ 16384 := by
 unfold verifyP at h
 split at h
 ·cases h
 ·rename_i t' ht
  split at h
  ·cases h
  split at h
  ·injection h with h
   subst h
   unfold partsP at ht
   split at ht
   ·cases ht
   split at ht
   ·unfold tok3 at ht
    split at ht
    ·split at ht
     ·split at ht
      ·split at ht
       ·rename_i hlen
        split at ht
        ·injection ht with ht
         rw [← ht]; exact hlen.1
        ·cases ht
       ·cases ht
      ·cases ht
     ·cases ht
    ·cases ht
   ·cases ht
  ·cases h
theorem read_ (s : ByteArray) (hs : s.size ≤ 1000000) (key : List UInt8) (B : Option Addr) (m d : Nat) (hm : m ≤ 1000000) (H : Hp) (hE : ErrH H) (hk : BytesAt H B m key) :
  CallO Tryz.prog 22 [pv (.string s), pv (.slice B m d)] H [] fun e H' G' => RCl (readP s key) e ∧ H.Le H' ∧ G' = [] := by
 have hv := verify_ s hs key B m d hm H hk
 have herr := fun x => verify_err (s := s) (key := key) (x := x)
 have hlen := fun t => verify_len (s := s) (key := key) (t := t)
 unfold readP
 generalize verifyP s key = X at hv herr hlen ⊢
 refine CallO.of_body Sg.tab Tryz.func22 rfl (nt := Tryz.f22.ntmps) rfl (by kernel_rfl) ?_
 (conv => whnf)
 refine ⟨⟨_, Tryz.func54, rfl, by kernel_rfl⟩, CallS.use hv [] rfl rfl trivial ?_⟩
 rintro e H2 G' hle2 ⟨hout, hle2', rfl⟩
 cases X with
 | error x =>
  have hx := herr x rfl
  obtain rfl := hout
  (conv => whnf)
  refine br.of (fun h1 => ?_) (fun h1 => ?_) <;> (conv => whnf)
  ·exact ⟨rfl, hle2, rfl⟩
  ·simp only [bne_eq_false_iff_eq] at h1
   exact absurd h1 hx
 | ok tk =>
  have hlp := hlen tk rfl
  obtain ⟨A, n, c, B1, m1, d1, rfl, hb1, hb2⟩ := hout
  have hn1 := hb1.1
  dsimp only
  (conv => whnf)
  refine br.of (fun h1 => ?_) (fun h1 => ?_) <;> (conv => whnf)
  ·have h1' : ¬ strEq tk.typ sType = true := by simpa using h1
   rw [if_pos (fun h => h1' (by rw [h]; exact str_refl _))]
   exact ⟨rfl, hle2, rfl⟩
  have h1' : strEq tk.typ sType = true := by simpa using h1
  rw [if_neg (fun h => h ((strEq_iff ..).1 h1'))]
  have hszJ := Ro.parse_sz tk.payload 4
  have hpar := Js.parse_ tk.payload A n c 4 H2 hb1.z (by omega)
  generalize parseP tk.payload 4 = X at hszJ hpar ⊢
  obtain ⟨J0, er, at0⟩ := X
  dsimp only at hszJ hpar ⊢
  have hsm := Ro.sm_of J0 (by omega)
  have hwr := Ro.wr_of J0
  refine ⟨⟨_, Tryz.func55, rfl, by kernel_rfl⟩, CallS.use hpar [] rfl rfl trivial ?_⟩
  rintro e H3 G' hle3 ⟨⟨k, y, t, A0, n0, c0, B0, m0, f0, rfl, hj⟩, rfl⟩
  have hle23 := hle2.trans hle3
  (conv => whnf)
  refine br.of (fun h2 => ?_) (fun h2 => ?_) <;> (conv => whnf)
  ·have h2' : er ≠ 0 := by simpa using h2
   rw [if_pos h2']
   exact ⟨rfl, hle23, rfl⟩
  have h2' : er = 0 := by simpa using h2
  rw [if_neg (fun h => h h2')]
  refine ⟨⟨_, Tryz.func13, rfl, by kernel_rfl⟩, CallS.use (print_ J0 hsm (by omega) k y t A0 n0 c0 B0 m0 f0 H3 hj) [] rfl rfl trivial ?_⟩
  rintro e H4 G' hle4 ⟨rfl, hle4', rfl⟩
  have hle24 := hle23.trans hle4
  (conv => whnf)
  have hconv : (A = none ∧ strOf tk.payload = ⟨#[]⟩) ∨ ∃ a, A = some a ∧ RdN H4 (some a) 0 (byteCells (strOf tk.payload)) := by
   cases A with
   | none => exact .inl ⟨rfl, by rw [hb1.2.1 rfl]; rfl⟩
   | some a => exact .inr ⟨a, rfl, by rw [← cells_str]; exact ((hb1.mono hle3).mono hle4).2.2 a rfl⟩
  rcases hconv with ⟨rfl, hso⟩ | ⟨a, rfl, hrd⟩
  ·(conv => whnf)
   rw [← hso]
   refine br.of (fun h3 => ?_) (fun h3 => ?_) <;> (conv => whnf)
   ·have h3' : ¬ strEq (printP J0).1 (strOf tk.payload) = true := by simpa using h3
    rw [if_pos (fun h => h3' (by rw [h]; exact str_refl _))]
    exact ⟨rfl, hle24, rfl⟩
   have h3' : strEq (printP J0).1 (strOf tk.payload) = true := by simpa using h3
   rw [if_neg (fun h => h ((strEq_iff ..).1 h3'))]
   refine ⟨⟨_, Tryz.func14, rfl, by kernel_rfl⟩, CallS.use (of_ J0 hsm (by omega) k y t A0 n0 c0 B0 m0 f0 H4 (hE.mono hle24) (hj.mono hle4)) [] rfl rfl trivial ?_⟩
   rintro e H5 G' hle5 ⟨hro, hle5', rfl⟩
   cases ho : ofP J0 with
   | none =>
    rw [ho] at hro
    obtain rfl := hro
    (conv => whnf)
    exact ⟨rfl, hle24.trans hle5, rfl⟩
   | some cc =>
    rw [ho] at hro
    obtain rfl := hro
    (conv => whnf)
    exact ⟨rfl, hle24.trans hle5, rfl⟩
  ·(conv => whnf)
   refine ⟨strOf tk.payload, (strOf_size _).trans hn1.symm, .inr hrd, ?_⟩
   (conv => whnf)
   refine br.of (fun h3 => ?_) (fun h3 => ?_) <;> (conv => whnf)
   ·have h3' : ¬ strEq (printP J0).1 (strOf tk.payload) = true := by simpa using h3
    rw [if_pos (fun h => h3' (by rw [h]; exact str_refl _))]
    exact ⟨rfl, hle24, rfl⟩
   have h3' : strEq (printP J0).1 (strOf tk.payload) = true := by simpa using h3
   rw [if_neg (fun h => h ((strEq_iff ..).1 h3'))]
   refine ⟨⟨_, Tryz.func14, rfl, by kernel_rfl⟩, CallS.use (of_ J0 hsm (by omega) k y t A0 n0 c0 B0 m0 f0 H4 (hE.mono hle24) (hj.mono hle4)) [] rfl rfl trivial ?_⟩
   rintro e H5 G' hle5 ⟨hro, hle5', rfl⟩
   cases ho : ofP J0 with
   | none =>
    rw [ho] at hro
    obtain rfl := hro
    (conv => whnf)
    exact ⟨rfl, hle24.trans hle5, rfl⟩
   | some cc =>
    rw [ho] at hro
    obtain rfl := hro
    (conv => whnf)
    exact ⟨rfl, hle24.trans hle5, rfl⟩
end Go.Kx.Se
namespace Go.Kx
open Go.RowKit
section
variable {P : Program}
inductive CK
 | b | s
 | i (k : IntKind)
def ckLit : CK → Value → Option Lit
 | .b, .bool x => some (.bool x)
 | .s, .string s => if s.size ≤ maxLen then some (.string s.data.toList) else none
 | .i k, .int k' n => if k' = k ∧ (Lit.int k n).wf = true then some (.int k n) else none
 | _, _ => none
def litsK : List CK → List Value → Option (List Lit)
 | [], [] => some []
 | c :: cs, v :: vs => (ckLit c v).bind fun l => (litsK cs vs).map fun r => l :: r
 | _, _ => none
def shapeFs (P : Program) (sh : TypeId → Option (List CK)) : List Field → Nat → Option (List CK)
 | [], _ => some []
 | f :: fs, off => if Nat.beq f.offset off then (sh f.type).bind fun ks => if Nat.beq ks.length (P.cellsOf f.type) then (shapeFs P sh fs (off + ks.length)).map fun r => ks ++ r else none else none
def shapeK (P : Program) : Nat → TypeId → Option (List CK)
 | 0, _ => none
 | d + 1, t => match P.underlying t with
  | some .bool => some [.b]
  | some (.int k) => some [.i k]
  | some .string => some [.s]
  | some (.struct fs) => if fs.all (·.name != "_") then (shapeFs P (shapeK P d) fs.toList 0).bind fun ks => if Nat.beq ks.length (P.cellsOf t) then some ks else none else none
  | _ => none
theorem litsK_len : ∀ {ks : List CK} {vs : List Value} {la : List Lit}, litsK ks vs = some la → vs.length = ks.length
 | [], [], _, _ => rfl
 | [], _ :: _, _, h => by simp [litsK] at h
 | _ :: _, [], _, h => by simp [litsK] at h
 | c :: cs, v :: vs, la, h => by
  unfold litsK at h
  simp only [Option.bind_eq_some_iff, Option.map_eq_some_iff] at h
  obtain ⟨l, _, r, h2, _⟩ := h
  simp [litsK_len h2]
theorem litsK_split : ∀ {k1 k2 : List CK} {vs : List Value} {la : List Lit}, litsK (k1 ++ k2) vs = some la → ∃ l1 l2, litsK k1 (vs.take k1.length) = some l1 ∧ litsK k2 (vs.drop k1.length) = some l2 ∧ la = l1 ++ l2
 | [], k2, vs, la, h => ⟨[], la, by simp [litsK], by simpa using h, rfl⟩
 | c :: k1, k2, [], la, h => by simp [litsK] at h
 | c :: k1, k2, v :: vs, la, h => by
  simp only [List.cons_append, litsK, Option.bind_eq_some_iff, Option.map_eq_some_iff] at h
  obtain ⟨l, h1, r, h2, rfl⟩ := h
  obtain ⟨l1, l2, h3, h4, rfl⟩ := litsK_split h2
  refine ⟨l :: l1, l2, ?_, by simpa using h4, rfl⟩
  simp [litsK, h1, h3]
theorem bytes_ext {a b : ByteArray} (h : a.data.toList = b.data.toList) : a = b := by
 have := Array.toList_inj.1 h
 cases a; cases b; simpa using this
theorem ckLit_inj {c : CK} {u v : Value} {l : Lit} (h1 : ckLit c u = some l) (h2 : ckLit c v = some l) : u = v := by
 cases c <;> cases u <;> simp only [ckLit] at h1 <;> first | (cases h1; done) | skip
 all_goals cases v <;> simp only [ckLit] at h2 <;> first | (cases h2; done) | skip
 ·injection h1 with h1; injection h2 with h2; rw [← h1] at h2; injection h2 with h2; rw [h2]
 ·split at h1
  ·split at h2
   ·injection h1 with h1; injection h2 with h2
    rw [← h1] at h2
    injection h2 with h2
    exact congrArg Value.string (bytes_ext h2.symm)
   ·cases h2
  ·cases h1
 ·split at h1
  ·rename_i e1
   split at h2
   ·rename_i e2
    injection h1 with h1; injection h2 with h2
    rw [← h1] at h2
    injection h2 with _ h2
    rw [e1.1, e2.1, h2]
   ·cases h2
  ·cases h1
theorem litsK_inj : ∀ {ks : List CK} {us vs : List Value} {l : List Lit}, litsK ks us = some l → litsK ks vs = some l → us = vs
 | [], [], [], _, _, _ => rfl
 | [], _ :: _, _, _, h, _ => by simp [litsK] at h
 | [], [], _ :: _, _, _, h => by simp [litsK] at h
 | _ :: _, [], _, _, h, _ => by simp [litsK] at h
 | _ :: _, _ :: _, [], _, _, h => by simp [litsK] at h
 | c :: ks, u :: us, v :: vs, l, h1, h2 => by
  simp only [litsK, Option.bind_eq_some_iff, Option.map_eq_some_iff] at h1 h2
  obtain ⟨a, a1, r, a2, rfl⟩ := h1
  obtain ⟨b, b1, r2, b2, h⟩ := h2
  injection h with h3 h4
  subst h3 h4
  rw [ckLit_inj a1 b1, litsK_inj a2 b2]
theorem shapeFs_lits {sh : TypeId → Option (List CK)} {kl : TypeId → List Value → Option (List Lit)} (hsh : ∀ t ks vs la, sh t = some ks → litsK ks vs = some la → kl t vs = some la) (cs : List Value) : ∀ (fs : List Field) (off : Nat) (ks : List CK) (la : List Lit), shapeFs P sh fs off = some ks → litsK ks (cs.drop off) = some la →
  ∃ al, (fs.mapM fun f => kl f.type ((cs.drop f.offset).take (P.cellsOf f.type))) = some al ∧ al.flatten = la
 | [], off, ks, la, h1, h2 => by
  simp only [shapeFs, Option.some.injEq] at h1
  subst h1
  refine ⟨[], by simp, ?_⟩
  cases hd : cs.drop off with
  | nil => rw [hd] at h2; simp only [litsK, Option.some.injEq] at h2; rw [← h2]; rfl
  | cons a r => rw [hd] at h2; simp [litsK] at h2
 | f :: fs, off, ks, la, h1, h2 => by
  unfold shapeFs at h1
  split at h1
  ·rename_i ho
   have ho := Nat.eq_of_beq_eq_true ho
   simp only [Option.bind_eq_some_iff] at h1
   obtain ⟨k1, hk1, h1⟩ := h1
   split at h1
   ·rename_i hl
    have hl := Nat.eq_of_beq_eq_true hl
    simp only [Option.map_eq_some_iff] at h1
    obtain ⟨k2, hk2, rfl⟩ := h1
    obtain ⟨l1, l2, h3, h4, rfl⟩ := litsK_split h2
    rw [List.drop_drop] at h4
    obtain ⟨al, ha, hf⟩ := shapeFs_lits hsh cs fs (off + k1.length) k2 l2 hk2 h4
    have h5 := hsh f.type k1 _ l1 hk1 h3
    rw [hl, ← ho] at h5
    refine ⟨l1 :: al, ?_, by simp [hf]⟩
    rw [List.mapM_cons, h5, ha]
    rfl
   ·cases h1
  ·cases h1
theorem shapeK_lits : ∀ (d : Nat) (t : TypeId) (ks : List CK) (vs : List Value) (la : List Lit), shapeK P d t = some ks → litsK ks vs = some la → P.keyLits d t vs = some la
 | 0, _, _, _, _, h, _ => by simp [shapeK] at h
 | d + 1, t, ks, vs, la, h, h2 => by
  unfold shapeK at h
  split at h
  ·rename_i hu
   injection h with h; subst h
   have hl := litsK_len h2
   match vs, hl with
   | [v], _ =>
    cases v <;> simp [litsK, ckLit] at h2
    simp [Program.keyLits, hu, h2]
  ·rename_i k hu
   injection h with h; subst h
   have hl := litsK_len h2
   match vs, hl with
   | [v], _ =>
    cases v with
    | int k' n =>
     by_cases hc : k' = k ∧ (Lit.int k n).wf = true
     ·simp only [litsK, ckLit, if_pos hc, Option.bind_some, Option.map_some] at h2
      unfold Program.keyLits
      rw [hu]
      simp only []
      rw [if_pos hc]; exact h2
     ·simp [litsK, ckLit, if_neg hc] at h2
    | _ => simp [litsK, ckLit] at h2
  ·rename_i hu
   injection h with h; subst h
   have hl := litsK_len h2
   match vs, hl with
   | [v], _ =>
    cases v with
    | string s =>
     by_cases hc : s.size ≤ maxLen
     ·simp only [litsK, ckLit, if_pos hc, Option.bind_some, Option.map_some] at h2
      unfold Program.keyLits
      rw [hu]
      simp only []
      rw [if_pos hc]; exact h2
     ·simp [litsK, ckLit, if_neg hc] at h2
    | _ => simp [litsK, ckLit] at h2
  ·rename_i fs hu
   split at h
   ·rename_i hn
    simp only [Option.bind_eq_some_iff] at h
    obtain ⟨ks', hk, h⟩ := h
    split at h
    ·rename_i hl
     have hl := Nat.eq_of_beq_eq_true hl
     injection h with h; subst h
     have hlen := litsK_len h2
     obtain ⟨al, ha, hf⟩ := shapeFs_lits (P := P) (kl := P.keyLits d) (fun t ks vs la a b => shapeK_lits d t ks vs la a b) vs fs.toList 0 ks' la hk (by simpa using h2)
     unfold Program.keyLits
     rw [hu]
     simp only []
     rw [if_pos ⟨by omega, hn⟩, ha]
     simp [hf]
    ·cases h
   ·cases h
  ·cases h
theorem QO.agg {o : Oper} {op : BinOp} {t ty : TypeId} {x y : Operand} (ho : o.op = .binOp op t x y ty) {F : Fr} {H : Hp} {G : List SB} {K : SV → Prop} (xs ys : List Value) (ks : List CK)
  (hx : evX x F fun sv => sv = .si (.ag (xs.map SC.val))) (hy : evX y F fun sv => sv = .si (.ag (ys.map SC.val)))
  (hg : P.eqGuardType P.depth t = false) (hk : P.keyTypeAt 8 t = true) (hs : shapeK P 8 t = some ks) (fx : (Value.agg xs.toArray).formed P t = true) (fy : (Value.agg ys.toArray).formed P t = true)
  (lx : (litsK ks xs).isSome = true) (ly : (litsK ks ys).isSome = true)
  (h : ∀ r : Bool, (r = true ↔ xs = ys) → (op = .eql ∧ K (pv (.bool r))) ∨ (op = .neq ∧ K (pv (.bool (!r))))) : QO P o F H G K := by
 obtain ⟨sx, rfl, hxv⟩ := evX_ok hx
 obtain ⟨sy, rfl, hyv⟩ := evX_ok hy
 obtain ⟨la, hla⟩ := Option.isSome_iff_exists.1 lx
 obtain ⟨lb, hlb⟩ := Option.isSome_iff_exists.1 ly
 have ka := shapeK_lits 8 t ks xs la hs hla
 have kb := shapeK_lits 8 t ks ys lb hs hlb
 have hall : ∀ (zs : List Value) ρ us, All2 (SC.Is ρ) (zs.map SC.val) us → us = zs := by
  intro zs
  induction zs with
  | nil => intro ρ us hu; cases hu; rfl
  | cons z zs ih => intro ρ us hu; cases hu with | cons h1 h2 => rw [ih ρ _ h2]; obtain rfl := h1; rfl
 have hval : ∀ (zs : List Value) ρ v, SV.Is ρ (.si (.ag (zs.map SC.val))) v → v = .agg zs.toArray := by
  rintro zs ρ v ⟨us, rfl, hu⟩
  rw [hall zs ρ us hu]
 have hr : ∀ w : World, ∃ r : Bool, (Op.equalIn 10000 t (.agg xs.toArray) (.agg ys.toArray)).run P w = .ok r w ∧ (r = true ↔ la = lb) := fun w =>
  run_equalIn_deep 9992 8 t hk w 8 8 _ _ la lb fx fy (by simpa [Value.cells] using ka) (by simpa [Value.cells] using kb)
 have hiff : la = lb ↔ xs = ys := ⟨fun e => litsK_inj hla (by rw [e]; exact hlb), fun e => by subst e; rw [hla] at hlb; injection hlb⟩
 have hone : ∀ w w' : World, ∀ r r' : Bool, (r = true ↔ la = lb) → (r' = true ↔ la = lb) → r = r' := fun w w' r r' h1 h2 => by
  cases r <;> cases r' <;> simp_all
 have hb : ∃ b : Bool, (b = true ↔ la = lb) := by
  by_cases e : la = lb
  ·exact ⟨true, by simp [e]⟩
  ·exact ⟨false, by simp [e]⟩
 obtain ⟨b, hb⟩ := hb
 rcases h b (hb.trans hiff) with ⟨rfl, hK⟩ | ⟨rfl, hK⟩
 ·refine ⟨_, hK, fun ρ a wc hf hw => ⟨_, rfl, fun w _ => ?_⟩⟩
  have e1 := hval xs ρ _ (hxv ρ a hf)
  have e2 := hval ys ρ _ (hyv ρ a hf)
  obtain ⟨r, hr1, hr2⟩ := hr w
  obtain rfl := hone w w r b hr2 hb
  have e : execOp a.eval o = (do pure (.value (← ((do eqGuard .eql t x y (a.eval x) (a.eval y); binOp .eql t (a.eval x) (a.eval y)) : Sem Value)))) := by simp only [execOp, ho]
  rw [e, e1, e2]
  simp only [Sem.run_bind, run_eqGuard_agg w .eql t x y _ _ hg, Result.andThen_ok, run_eql_struct, hr1, Sem.run_pure]
 ·refine ⟨_, hK, fun ρ a wc hf hw => ⟨_, rfl, fun w _ => ?_⟩⟩
  have e1 := hval xs ρ _ (hxv ρ a hf)
  have e2 := hval ys ρ _ (hyv ρ a hf)
  obtain ⟨r, hr1, hr2⟩ := hr w
  obtain rfl := hone w w r b hr2 hb
  have e : execOp a.eval o = (do pure (.value (← ((do eqGuard .neq t x y (a.eval x) (a.eval y); binOp .neq t (a.eval x) (a.eval y)) : Sem Value)))) := by simp only [execOp, ho]
  rw [e, e1, e2]
  simp only [Sem.run_bind, run_eqGuard_agg w .neq t x y _ _ hg, Result.andThen_ok, run_neq_struct, hr1, Sem.run_pure]
theorem freeze_cells {w : World} {g : Nat} {cur : Array Value} {et : TypeId} {z : Nat × Nat} (hg : w.heap[g]? = some (.cells cur et z)) (n m : Nat) :
  (w.freeze ⟨g, n, none⟩ m).os = w.os ∧ (w.freeze ⟨g, n, none⟩ m).tape = w.tape ∧ (w.freeze ⟨g, n, none⟩ m).output = w.output ∧ (w.freeze ⟨g, n, none⟩ m).heap.size = w.heap.size ∧ (∀ b, b ≠ g → (w.freeze ⟨g, n, none⟩ m).heap[b]? = w.heap[b]?) ∧ ∃ z', (w.freeze ⟨g, n, none⟩ m).heap[g]? = some (.cells cur et z') := by
 unfold World.freeze
 split
 ·exact ⟨rfl, rfl, rfl, rfl, fun _ _ => rfl, _, hg⟩
 ·refine ⟨rfl, rfl, rfl, by simp, fun b hb => ?_, ?_⟩
  ·simp [Array.getElem?_modify, Ne.symm hb]
  ·obtain ⟨lo, hi⟩ := z
   simp [Array.getElem?_modify, hg]
theorem run_convert_own {w : World} {t e et : TypeId} {g o n cap : Nat} {cur : Array Value} {z : Nat × Nat} (ht : P.underlying t = some (.slice e)) (he : P.underlying e = some (.int .u8)) (hg : w.heap[g]? = some (.cells cur et z)) :
  (convert t t (.slice (some ⟨g, o, none⟩) n cap)).run P w = .ok (.slice (some ⟨g, o, none⟩) n cap) (w.freeze ⟨g, cur.size, none⟩ 1) := by
 have hsh : w.shape? g = some (et, cur.size) := by
  unfold World.shape?
  rw [hg]
 simp [convert, run_underlying ht, run_underlying he, markStringish, hsh]
theorem LO.convOwn {o : Oper} {t e et : TypeId} {x : Operand} (ho : o.op = .convert t t x) {F : Fr} {H : Hp} {G : List SB} {K : SV → Hp → List SB → Prop} {Kp : List PanicEntry → Hp → List SB → Prop} (k : Nat) {n : Nat} {xs : List Value}
  (hx : evX x F fun sv => sv = .si (.ce (.self k))) (hk : G[k]? = some (.row et 1 n xs)) (hn : 0 < n) (ht : P.underlying t = some (.slice e)) (he : P.underlying e = some (.int .u8))
  (h : ∀ a c H', H.Le H' → RdN H' (some a) 0 xs → K (pv (.slice (some a) n c)) H' (G.set k .dead)) : LO P o F H G K Kp := by
 intro w0 M hgd H0 ρ a w hs hf
 obtain ⟨sx, rfl, hxv⟩ := evX_ok hx
 have hv : ρ[k]? = some (a.eval x) := hxv ρ a hf
 obtain ⟨r, hr, hok⟩ := hs.at hk
 obtain rfl : r = a.eval x := by rw [hr] at hv; injection hv
 rcases hok.2 with ⟨_, h0⟩ | ⟨g, off, cap, cur, hre, hg, hnc, hcm, hcs, htk⟩
 ·omega
 have hblk : blkAt ρ G k = some g := by rw [blkAt_eq hk hr, hre]; rfl
 obtain ⟨f1, f2, f3, f4, f5, z', f6⟩ := freeze_cells hg cur.size 1
 generalize hw' : w.freeze ⟨g, cur.size, none⟩ 1 = w' at *
 have hrun : (execOp a.eval o).run P w = .ok (.value (.slice (some ⟨g, off, none⟩) n cap)) w' := by
  have := run_convert_own (n := n) (cap := cap) (o := off) ht he hg
  rw [hw'] at this
  simp [execOp, ho, hre, this]
 have hout : H.Out g := (hs.own k g hblk).2
 have hst : St w0 M H0 ρ H (G.set k .dead) w' := hs.turn hk hr (g := g) (by rw [hre]; rfl) f1 f2 f3 (by omega) (fun b _ hb => f5 b hb) trivial (.inr rfl)
 have hnk : ∀ j y, blkAt ρ (G.set k .dead) j = some y → y ≠ g := fun j y hj e => by
  subst e
  obtain ⟨s1, r1, h1, h2, h3⟩ := blkAt_some hj
  have hkl := (List.getElem?_eq_some_iff.1 hk).1
  by_cases hjk : k = j
  ·subst hjk
   rw [List.getElem?_set_self hkl] at h1
   injection h1 with h1; subst h1
   simp [SB.blk] at h3
  ·rw [List.getElem?_set_ne hjk] at h1
   exact hjk (hs.inj k j y hblk (by rw [blkAt_eq h1 h2]; exact h3))
 have hcell : ∀ b i v, H.putAt g off xs b i = some v → H b i = some v ∨ (b = g ∧ w'.cell? ⟨g, i, none⟩ = some v) := fun b i v ev => by
  rcases Hp.putAt_inv ev with e1 | ⟨rfl, e0, e1⟩
  ·exact .inl e1
  ·refine .inr ⟨rfl, ?_⟩
   rw [Nat.mul_one] at htk
   rw [← htk, List.getElem?_take] at e1
   split at e1
   ·simp only [World.cell?, f6]
    rw [List.getElem?_drop, show off + (i - off) = i by omega] at e1
    simpa using e1
   ·cases e1
 have hst2 : St w0 M H0 ρ (H.putAt g off xs) (G.set k .dead) w' := by
  refine ⟨hst.os, hst.tape, hst.output, hst.size, hst.old, hst.hle.trans (Hp.putAt_le hout), ?_, ?_, hst.len, hst.ok, ?_, hst.inj⟩
  ·intro b i v ev
   rcases hcell b i v ev with e1 | ⟨rfl, e1⟩
   ·exact hst.hin b i v e1
   ·exact e1
  ·intro b i v ev
   rcases hcell b i v ev with e1 | ⟨rfl, e1⟩
   ·exact hst.hnew b i v e1
   ·exact .inr (hs.own k b hblk).1
  ·intro j y hj
   obtain ⟨h1, h2⟩ := hst.own j y hj
   refine ⟨h1, fun i => ?_⟩
   cases ev : H.putAt g off xs y i with
   | none => rfl
   | some v =>
    rcases hcell y i v ev with e1 | ⟨e1, _⟩
    ·rw [h2 i] at e1; cases e1
    ·exact absurd e1 (hnk j y hj)
 rw [hrun]
 exact ⟨pv (.slice (some ⟨g, off, none⟩) n cap), ρ, H.putAt g off xs, G.set k .dead, hst2, .refl _, rfl, Hp.putAt_le hout, h ⟨g, off, none⟩ cap _ (Hp.putAt_le hout) Hp.putAt_rd⟩
end
end Go.Kx
namespace Go.Kx.L13
open Go.Proofs Go.Kx Go.RowKit Go.Kx.Js Go.Kx.Pr Go.Kx.Rt Go.Kx.Ob Go.Kx.Wo Go.Kx.Cl Go.Kx.Pa Go.Kx.Su Go.Kx.Se
set_option maxRecDepth 20000
set_option linter.unusedSimpArgs false
def T : Tab := [(25, { k := TK.st [(0, 9, 1), (1, 9, 1), (2, 9, 1), (3, 3, 1), (4, 9, 1), (5, 23, 3), (8, 3, 1), (9, 9, 1)], agg := true, size := 10, bytes := 144, zero := [Z.s, Z.s, Z.s, Z.i IntKind.i64, Z.s, Z.s, Z.s, Z.s, Z.i IntKind.i64, Z.s] }), (34, { k := TK.st [(0, 3, 1), (1, 4, 1), (2, 9, 1), (3, 31, 1), (4, 32, 1)], agg := true, size := 5, bytes := 80, zero := [Z.i IntKind.i64, Z.b, Z.s, Z.sl, Z.sl] }), (52, { k := TK.st [(0, 9, 1), (1, 34, 5)], agg := true, size := 6, bytes := 96, zero := [Z.s, Z.i IntKind.i64, Z.b, Z.s, Z.sl, Z.sl] }), (5, { k := TK.int IntKind.u8, agg := false, size := 1, bytes := 1, zero := [Z.i IntKind.u8] }), (9, { k := TK.string, agg := false, size := 1, bytes := 16, zero := [Z.s] }), (23, { k := TK.st [(0, 9, 1), (1, 9, 1), (2, 9, 1)], agg := true, size := 3, bytes := 48, zero := [Z.s, Z.s, Z.s] }), (4, { k := TK.bool, agg := false, size := 1, bytes := 1, zero := [Z.b] }), (3, { k := TK.int IntKind.i64, agg := false, size := 1, bytes := 8, zero := [Z.i IntKind.i64] }), (55, { k := TK.slice 5, agg := false, size := 1, bytes := 24, zero := [Z.sl] }), (35, { k := TK.int IntKind.i64, agg := false, size := 1, bytes := 8, zero := [Z.i IntKind.i64] }), (28, { k := TK.st [(0, 9, 1), (1, 9, 1), (2, 9, 1), (3, 3, 1), (4, 9, 1), (5, 9, 1), (6, 9, 1), (7, 9, 1), (8, 3, 1), (9, 9, 1)], agg := true, size := 10, bytes := 144, zero := [Z.s, Z.s, Z.s, Z.i IntKind.i64, Z.s, Z.s, Z.s, Z.s, Z.i IntKind.i64, Z.s] }), (62, { k := TK.slice 9, agg := false, size := 1, bytes := 24, zero := [Z.sl] }), (31, { k := TK.slice 34, agg := false, size := 1, bytes := 24, zero := [Z.sl] }), (32, { k := TK.slice 52, agg := false, size := 1, bytes := 24, zero := [Z.sl] })]
set_option maxRecDepth 100000 in
theorem tab : TabOk Tryz.prog T := tabOk_mk (ts := [25, 34, 52, 5, 9, 23, 4, 3, 55, 35, 28, 62, 31, 32]) (by kernel_rfl)
theorem mixed : Tryz.prog.follows .mixedOrders = true := by kernel_rfl
def smpC : Clm := ⟨⟨#[105]⟩, ⟨#[106]⟩, ⟨#[97]⟩, 5, ⟨#[116]⟩, ⟨sOpaque, ⟨#[117]⟩, ⟨#[]⟩⟩, 3, ⟨#[]⟩⟩
def keyL : List UInt8 := ([48, 49, 50, 51, 52, 53, 54, 55, 56, 57, 97, 98, 99, 100, 101, 102] : List UInt8)
theorem smp_right : clRight smpC = true := by decide +kernel
theorem smp_sign : ∃ s, csignP smpC ⟨#[107, 49]⟩ keyL = (s, 0) := by
 unfold csignP
 rw [smp_right, if_neg (by decide)]
 unfold Jw.signP
 have h1 : (Wo.wordP 40 ⟨#[107, 49]⟩ && Wo.wordP 40 sType) = true := by decide +kernel
 rw [h1, if_neg (by decide), if_neg (by have := cl_wrl ((right_iff _).1 smp_right); omega), if_neg (by decide)]
 exact ⟨_, rfl⟩
theorem sign_size {kid typ : ByteArray} {pl key : List UInt8} {s : ByteArray} {x : Int} (h : Jw.signP kid typ pl key = (s, x)) : s.size ≤ 49152 := by
 unfold Jw.signP at h
 split at h
 ·injection h with h; rw [← h]; decide
 split at h
 ·injection h with h; rw [← h]; decide
 split at h
 ·injection h with h; rw [← h]; decide
 rename_i h1 h2 h3
 injection h with h
 simp only [Bool.not_eq_false, Bool.and_eq_true] at h1
 have l1 := Jw.encP_len _ (wrJ (Jw.headJ kid typ)) (Nat.lt_succ_self _)
 have l2 := Jw.encP_len _ pl (Nat.lt_succ_self _)
 have l3 := Jw.encP_len _ (Sha.hmac key (Jw.signedP kid typ pl)) (Nat.lt_succ_self _)
 have l4 : (Sha.hmac key (Jw.signedP kid typ pl)).length = 32 := Sha.sha_length _
 have l5 := Jw.head_len h1.1 h1.2
 have lsg : (Jw.signedP kid typ pl).length = (En.encP (wrJ (Jw.headJ kid typ))).length + ((En.encP pl).length + 1) := by unfold Jw.signedP; rw [List.length_append, List.length_cons]
 rw [← h, Jw.bs_size]
 unfold Jw.tokenP
 rw [List.length_append, List.length_cons]
 omega
theorem csign_size {c : Clm} {kid : ByteArray} {key : List UInt8} {s : ByteArray} {x : Int} (h : csignP c kid key = (s, x)) : s.size ≤ 49152 := by
 unfold csignP at h
 split at h
 ·injection h with h; rw [← h]; decide
 ·exact sign_size h
def cellsC (c : Clm) : List Value := [.string c.iss, .string c.jti, .string c.aud, .int .i64 c.iat, .string c.txn, .string c.sub.fmt, .string c.sub.id, .string c.sub.own, .int .i64 c.kind, .string c.reason]
def ksC : List CK := [.s, .s, .s, .i .i64, .s, .s, .s, .s, .i .i64, .s]
structure FitC (c : Clm) : Prop where
 a : c.iss.size ≤ maxLen
 b : c.jti.size ≤ maxLen
 c' : c.aud.size ≤ maxLen
 n : (Lit.int .i64 c.iat).wf = true
 t : c.txn.size ≤ maxLen
 f : c.sub.fmt.size ≤ maxLen
 i : c.sub.id.size ≤ maxLen
 o : c.sub.own.size ≤ maxLen
 k : (Lit.int .i64 c.kind).wf = true
 r : c.reason.size ≤ maxLen
theorem FitC.lits {c : Clm} (h : FitC c) : (litsK ksC (cellsC c)).isSome = true := by
 unfold ksC cellsC
 simp only [litsK, ckLit, if_pos h.a, if_pos h.b, if_pos h.c', h.n, if_pos h.t, if_pos h.f, if_pos h.i, if_pos h.o, h.k, if_pos h.r, Option.bind_some, Option.map_some, and_self, if_true, Option.isSome_some]
theorem cellsC_inj {c d : Clm} : cellsC c = cellsC d ↔ c = d := by
 constructor
 ·intro h
  obtain ⟨a, b, c', n, t, ⟨f, i, o⟩, k, r⟩ := c
  obtain ⟨a2, b2, c2, n2, t2, ⟨f2, i2, o2⟩, k2, r2⟩ := d
  simp only [cellsC, List.cons.injEq, Value.string.injEq, Value.int.injEq, true_and, and_true] at h
  obtain ⟨rfl, rfl, rfl, rfl, rfl, rfl, rfl, rfl, rfl, rfl⟩ := h
  rfl
 ·rintro rfl; rfl
theorem gC : Tryz.prog.eqGuardType Tryz.prog.depth 25 = false := by kernel_rfl
theorem kC : Tryz.prog.keyTypeAt 8 25 = true := by kernel_rfl
theorem sC : shapeK Tryz.prog 8 25 = some ksC := by kernel_rfl
theorem fC (c : Clm) : (Value.agg (cellsC c).toArray).formed Tryz.prog 25 = true := by kernel_rfl
theorem smp_fit : FitC smpC := ⟨by decide, by decide, by decide, by decide, by decide, by decide, by decide, by decide, by decide, by decide⟩
theorem sample_ (H : Hp) : CallO Tryz.prog 28 [] H [] fun e H' G' => e = .ret (.si (.ag (csC smpC))) ∧ H' = H ∧ G' = [] := by
 refine CallO.of_body tab Tryz.func28 rfl (nt := Tryz.f28.ntmps) rfl (by kernel_rfl) ?_
 (conv => whnf)
 exact ⟨rfl, rfl, rfl⟩
theorem anchor_ (H : Hp) (hE : ErrH H) : CallO Tryz.prog 8 [] H [] fun e H' G' => e = .ret (pv (.bool true)) ∧ H.Le H' ∧ G' = [] := by
 obtain ⟨tok, hsg⟩ := smp_sign
 have hrd := sign_read hsg
 refine CallO.of_body tab Tryz.func8 rfl (nt := Tryz.f8.ntmps) rfl (by kernel_rfl) ?_
 (conv => whnf)
 refine ⟨⟨_, Tryz.func27, rfl, by kernel_rfl⟩, CallS.use (name_ 3 (by decide) (by decide) H) [] rfl rfl trivial ?_⟩
 rintro e H1 G' hle1 ⟨rfl, hle1', rfl⟩
 (conv => whnf)
 refine ⟨by decide, .inr ?_⟩
 refine ⟨rfl, ?_⟩
 (conv => whnf)
 change LO _ _ _ _ _ _ _
 refine LO.convOwn (t := 55) (e := 5) (et := 5) (x := .tmp 12) (n := 16) (xs := bCells keyL) ?_ 0 ?_ ?_ (by decide) (by kernel_rfl) (by kernel_rfl) ?_
 ·rfl
 ·rfl
 ·rfl
 intro g c2 H2 hle2 hkr
 (conv => whnf)
 have hkb : BytesAt H2 (some g) 16 keyL := .lit rfl hkr
 refine ⟨⟨_, Tryz.func28, rfl, by kernel_rfl⟩, CallS.use (sample_ H2) [] rfl rfl trivial ?_⟩
 rintro e H3 G' hle3 ⟨rfl, rfl, rfl⟩
 (conv => whnf)
 have hs := sign_ smpC ⟨by decide, by decide⟩ ⟨#[107, 49]⟩ keyL (some g) c2 (by decide) H3 hkb
 rw [hsg] at hs
 refine ⟨⟨_, Tryz.func20, rfl, by kernel_rfl⟩, CallS.use hs [] rfl rfl trivial ?_⟩
 rintro e H4 G' hle4 ⟨rfl, hle4', rfl⟩
 (conv => whnf)
 have hr := read_ tok (by have := csign_size hsg; omega) keyL (some g) 16 c2 (by decide) H4 (hE.mono ((hle1.trans hle2).trans hle4)) (hkb.mono hle4)
 rw [hrd] at hr
 refine ⟨⟨_, Tryz.func22, rfl, by kernel_rfl⟩, CallS.use hr [] rfl rfl trivial ?_⟩
 rintro e H5 G' hle5 ⟨rfl, hle5', rfl⟩
 (conv => whnf)
 refine WS.draw tab mixed (.take 0 (.take 1 (.take 2 (.take 3 (.take 4 (.take 5 (.take 6 (.take 7 (.take 8 (.take 9 (.take 10 (.take 11 (.take 12 (.take 13 (.take 14 (.alt 15 (.take 16 (.take 17 (.take 18 .done))) .no)))))))))))))))) (by kernel_rfl) [] ?_
 (conv => whnf)
 refine And.intro ?_ ?_ <;> (conv => whnf)
 rotate_left
 ·exact trivial
 refine ⟨⟨_, Tryz.func28, rfl, by kernel_rfl⟩, CallS.use (sample_ H5) [] rfl rfl trivial ?_⟩
 rintro e H6 G' hle6 ⟨rfl, rfl, rfl⟩
 (conv => whnf)
 refine ⟨⟨trivial, rfl, trivial⟩, ?_⟩
 (conv => whnf)
 change QO _ _ _ _ _ _
 refine QO.agg (t := 25) (ty := 25) (op := .eql) (x := .tmp 40) (y := .tmp 41) ?_ (cellsC smpC) (cellsC smpC) ksC ?_ ?_ gC kC sC (fC _) (fC _) smp_fit.lits smp_fit.lits ?_
 ·rfl
 ·rfl
 ·rfl
 intro r hr
 obtain rfl : r = true := hr.2 rfl
 refine .inl ⟨rfl, ?_⟩
 (conv => whnf)
 exact ⟨rfl, ((hle1.trans hle2).trans hle4).trans hle5, rfl⟩
end Go.Kx.L13
namespace Go.Proofs.YtdknmcaemebgfaaGreatDoor.RowLaid
open Go.Deep Go.ChangeShapes Go.WideShapes Go.ChangeAt Go.RowKit Go.Kx Go.Proofs
set_option maxRecDepth 100000
theorem list10 {α : Type} {l : List α} (h : l.length = 10) : ∃ a b c d e f g i j k, l = [a, b, c, d, e, f, g, i, j, k] := by
 match l, h with
 | [a, b, c, d, e, f, g, i, j, k], _ => exact ⟨a, b, c, d, e, f, g, i, j, k, rfl⟩
theorem list3 {α : Type} {l : List α} (h : l.length = 3) : ∃ a b c, l = [a, b, c] := by
 match l, h with
 | [a, b, c], _ => exact ⟨a, b, c, rfl⟩
section
variable {H : Type} {enc : TypeId × Value → H} {w : World} {base : Nat} {spare : Nat → Bool} {held : Bool}
theorem cell_s {n : Nat} {cs : List Value} {o : Option (DataW H × List MemPlace)} {c : Value} (h : DataW.trod enc Tryz.prog w base spare held n 9 cs = o) (ho : o ≠ none) (hc : cs = [c]) : ∃ s : ByteArray, c = .string s ∧ s.size ≤ maxLen := by
 cases o with
 | none => exact absurd rfl ho
 | some x =>
  obtain ⟨s, e, _, h2⟩ := DataW.trod_string Tryz.underlying9 h
  rw [hc] at e
  injection e with e
  exact ⟨s, e, h2⟩
theorem cell_i {n : Nat} {cs : List Value} {o : Option (DataW H × List MemPlace)} {c : Value} (h : DataW.trod enc Tryz.prog w base spare held n 3 cs = o) (ho : o ≠ none) (hc : cs = [c]) : ∃ i : Int, c = .int .i64 i ∧ (Lit.int .i64 i).wf = true := by
 cases o with
 | none => exact absurd rfl ho
 | some x =>
  obtain ⟨s, e, _, h2⟩ := DataW.trod_int Tryz.underlying3 h
  rw [hc] at e
  injection e with e
  exact ⟨s, e, h2⟩
theorem some_of {α : Type} {xs : List α} {i k : Nat} (h : xs.length = k) (hi : i < k) : xs[i]? ≠ none := by
 rw [List.getElem?_eq_getElem (by omega)]; simp
theorem e9 : Tryz.prog.cellsOf 9 = 1 := by kernel_rfl
theorem e3 : Tryz.prog.cellsOf 3 = 1 := by kernel_rfl
theorem e23 : Tryz.prog.cellsOf 23 = 3 := by kernel_rfl
theorem e25 : Tryz.prog.cellsOf 25 = 10 := by kernel_rfl
theorem takeS {l : List Value} (k : Nat) {c : Value} (h : l[k]? = some c) : List.take (Tryz.prog.cellsOf 9) (List.drop k l) = [c] := by
 rw [e9, List.drop_eq_getElem?_toList_append, h]; rfl
theorem takeI {l : List Value} (k : Nat) {c : Value} (h : l[k]? = some c) : List.take (Tryz.prog.cellsOf 3) (List.drop k l) = [c] := by
 rw [e3, List.drop_eq_getElem?_toList_append, h]; rfl
theorem takeB {l : List Value} (k : Nat) {a b c : Value} (h : l.drop k = a :: b :: c :: l.drop (k + 3)) : List.take (Tryz.prog.cellsOf 23) (List.drop k l) = [a, b, c] := by
 rw [e23, h]; rfl
theorem cell_sub {n : Nat} {cs : List Value} {o : Option (DataW H × List MemPlace)} {a b c : Value} (h : DataW.trod enc Tryz.prog w base spare held n 23 cs = o) (ho : o ≠ none) (hc : cs = [a, b, c]) : ∃ s t u : ByteArray, a = .string s ∧ b = .string t ∧ c = .string u ∧ s.size ≤ maxLen ∧ t.size ≤ maxLen ∧ u.size ≤ maxLen := by
 cases o with
 | none => exact absurd rfl ho
 | some x =>
  obtain ⟨xs, m, _, _, _, hl, hf⟩ := DataW.trod_struct Tryz.underlying23 h
  subst hc
  obtain ⟨s, rfl, h1⟩ := cell_s (hf 0 _ rfl) (some_of hl (by decide)) (takeS 0 rfl)
  obtain ⟨t, rfl, h2⟩ := cell_s (hf 1 _ rfl) (some_of hl (by decide)) (takeS 1 rfl)
  obtain ⟨u, rfl, h3⟩ := cell_s (hf 2 _ rfl) (some_of hl (by decide)) (takeS 2 rfl)
  exact ⟨s, t, u, rfl, rfl, rfl, h1, h2, h3⟩
theorem open_cl {r : Reach} {b0 : Nat} {v : Value} {d : DataW H} {ps : List MemPlace} (hval : Value.okWide Tryz.prog w r b0 25 v) (hd : DataW.Trod enc Tryz.prog w base spare held 25 v d ps) :
  ∃ c : Cl.Clm, v = .agg (L13.cellsC c).toArray ∧ L13.FitC c := by
 obtain ⟨cs, rfl⟩ : ∃ cs, v = .agg cs := by
  simp only [Value.okWide, Tryz.underlying25] at hval
  obtain ⟨cs, h, _⟩ := hval
  exact ⟨cs, h⟩
 obtain ⟨fuel, h⟩ := hd
 obtain ⟨xs, n, _, _, hlen, hl, hf⟩ := DataW.trod_struct Tryz.underlying25 h
 rw [e25] at hlen
 obtain ⟨l⟩ := cs
 obtain ⟨a, b, c, d1, e, f, g, i, j, k, hcs⟩ := list10 hlen
 obtain rfl : l = [a, b, c, d1, e, f, g, i, j, k] := hcs
 obtain ⟨s1, rfl, h1⟩ := cell_s (hf 0 _ rfl) (some_of hl (by decide)) (takeS 0 rfl)
 obtain ⟨s2, rfl, h2⟩ := cell_s (hf 1 _ rfl) (some_of hl (by decide)) (takeS 1 rfl)
 obtain ⟨s3, rfl, h3⟩ := cell_s (hf 2 _ rfl) (some_of hl (by decide)) (takeS 2 rfl)
 obtain ⟨s4, rfl, h4⟩ := cell_i (hf 3 _ rfl) (some_of hl (by decide)) (takeI 3 rfl)
 obtain ⟨s5, rfl, h5⟩ := cell_s (hf 4 _ rfl) (some_of hl (by decide)) (takeS 4 rfl)
 obtain ⟨s6, s7, s8, rfl, rfl, rfl, h6, h7, h8⟩ := cell_sub (hf 5 _ rfl) (some_of hl (by decide)) (takeB 5 rfl)
 obtain ⟨s9, rfl, h9⟩ := cell_i (hf 6 _ rfl) (some_of hl (by decide)) (takeI 8 rfl)
 obtain ⟨s10, rfl, h10⟩ := cell_s (hf 7 _ rfl) (some_of hl (by decide)) (takeS 9 rfl)
 exact ⟨⟨s1, s2, s3, s4, s5, ⟨s6, s7, s8⟩, s9, s10⟩, rfl, ⟨h1, h2, h3, h4, h5, h6, h7, h8, h9, h10⟩⟩
end
theorem is_cl (c : Cl.Clm) : SV.Is [] (.si (.ag (Se.csC c))) (.agg (L13.cellsC c).toArray) :=
 ⟨L13.cellsC c, rfl, .cons rfl (.cons rfl (.cons rfl (.cons rfl (.cons rfl (.cons rfl (.cons rfl (.cons rfl (.cons rfl (.cons rfl .nil)))))))))⟩
end Go.Proofs.YtdknmcaemebgfaaGreatDoor.RowLaid
namespace Go.Kx.L13
open Go.Proofs Go.Kx Go.RowKit Go.Kx.Js Go.Kx.Pr Go.Kx.Rt Go.Kx.Ob Go.Kx.Wo Go.Kx.Cl Go.Kx.Pa Go.Kx.Su Go.Kx.Se Go.Kx.Jw
set_option maxRecDepth 20000
set_option linter.unusedSimpArgs false
theorem wf64 {n : Int} (h0 : -9223372036854775808 ≤ n) (h1 : n ≤ 9223372036854775807) : (Lit.int .i64 n).wf = true := by
 have e0 : IntKind.i64.min = -9223372036854775808 := by decide
 have e1 : IntKind.i64.max = 9223372036854775807 := by decide
 simp [Lit.wf, e0, e1, h0, h1]
theorem fit_right {c : Clm} (h : RightC c) : FitC c := by
 have hm : 256 ≤ maxLen := by decide
 have w : ∀ {s : ByteArray}, Wo.wordP 256 s = true → s.size ≤ maxLen := fun hw => Nat.le_trans (word_size hw).1 hm
 have hs : c.sub.fmt.size ≤ maxLen ∧ c.sub.id.size ≤ maxLen ∧ c.sub.own.size ≤ maxLen := by
  rcases sub_cases h.sub with ⟨id, e, h1⟩ | ⟨id, e, h1, h2⟩ | ⟨id, own, e, h1, h2⟩
  ·rw [e]; exact ⟨(by decide : sOpaque.size ≤ maxLen), w h1, Nat.zero_le _⟩
  ·rw [e]; exact ⟨(by decide : sEmail.size ≤ maxLen), w h1, Nat.zero_le _⟩
  ·rw [e]; exact ⟨(by decide : sIssSub.size ≤ maxLen), w h1, w h2⟩
 exact ⟨w h.iss, w h.jti, w h.aud, wf64 (by have := h.iat; omega) (by have := h.iat; omega), w h.txn, hs.1, hs.2.1, hs.2.2, wf64 (by have := h.kind; omega) (by have := h.kind; omega), Nat.le_trans (reason_size h) hm⟩
theorem fit0 : FitC clm0 := ⟨by decide, by decide, by decide, by decide, by decide, by decide, by decide, by decide, by decide, by decide⟩
theorem read_right {s : ByteArray} {key : List UInt8} {c : Clm} (h : readP s key = .ok c) : RightC c := by
 unfold readP at h
 split at h
 ·cases h
 split at h
 ·cases h
 split at h
 ·cases h
 split at h
 ·cases h
 split at h
 ·cases h
 ·rename_i hc
  injection h with h
  subst h
  exact (of_some hc).1
def clX : Except Int Clm → Clm
 | .ok c => c
 | .error _ => clm0
def nX : Except Int Clm → Int
 | .ok _ => 0
 | .error x => x
theorem rcl {X : Except Int Clm} {e : SE} (h : RCl X e) : e = .ret (.tu [.ag (csC (clX X)), .ce (.val (.int .i64 (nX X)))]) := by
 cases X with
 | ok c => exact h
 | error x => exact h
theorem fitX {s : ByteArray} {key : List UInt8} : FitC (clX (readP s key)) := by
 cases h : readP s key with
 | ok c => exact fit_right (read_right h)
 | error x => exact fit0
theorem eqClm {o : Oper} {x y : Operand} (ho : o.op = .binOp .eql 25 x y 25) {F : Fr} {H : Hp} {G : List SB} {K : SV → Prop} (c d : Clm)
  (hx : evX x F fun sv => sv = .si (.ag ((cellsC c).map SC.val))) (hy : evX y F fun sv => sv = .si (.ag ((cellsC d).map SC.val))) (fc : FitC c) (fd : FitC d) (h : ∀ r : Bool, (r = true ↔ c = d) → K (pv (.bool r))) : QO Tryz.prog o F H G K :=
 QO.agg ho (cellsC c) (cellsC d) ksC hx hy gC kC sC (fC _) (fC _) fc.lits fd.lits fun r hr => .inl ⟨rfl, h r (hr.trans cellsC_inj)⟩
end Go.Kx.L13
namespace Go.Kx
open Go.RowKit
theorem St.lend {w0 : World} {M : Nat → Prop} (hgd : Gd w0 M) {H0 : Hp} {ρ : List Value} {H : Hp} {G : List SB} {w : World} (h : St w0 M H0 ρ H G w) {k : Nat} {t : TypeId} {sz n : Nat} {xs : List Value} (hk : G[k]? = some (.row t sz n xs)) (hz : n = 0 → xs = []) :
  ∃ x H1 M1, St w M1 H1 ρ H1 (G.set k .dead) w ∧ H.Le H1 ∧ Frozen H1 x n xs ∧ ρ[k]? = some x ∧ Gd w M1 ∧
   ∀ ρ' H' G' w1, St w M1 H1 ρ' H' G' w1 → St w0 M H0 (ρ' ++ [x]) H (G' ++ [.row t sz n xs]) w1 := by
 obtain ⟨x, H1, a1, a2, a3, a4⟩ := h.frz hk hz
 have a5 := a1.kill k
 rw [List.set_set] at a5
 refine ⟨x, H1, fun g => ∃ j, blkAt ρ (G.set k .dead) j = some g, ⟨rfl, rfl, rfl, Nat.le_refl _, fun _ _ _ => rfl, .refl _, a5.hin, fun _ _ _ e => .inl e, a5.len, a5.ok, fun j g hg => ⟨.inr ⟨j, hg⟩, (a5.own j g hg).2⟩, a5.inj⟩, a2, a3, a4, a5.gd hgd fun b hb => hb, ?_⟩
 intro ρ' H' G' w1 h1
 have a2 := a2.trans h1.hle
 have hok : (SB.row t sz n xs).Ok ρ w x := h.ok k _ _ hk a4
 have hbk : blkAt ρ G k = (SB.row t sz n xs).blk x := blkAt_eq hk a4
 have hM : ∀ g, (∃ j, blkAt ρ (G.set k .dead) j = some g) → w0.heap.size ≤ g ∨ M g := fun g ⟨j, hj⟩ => (a5.own j g hj).1
 have hself : ∀ g, (SB.row t sz n xs).blk x = some g → g < w.heap.size ∧ ¬ ∃ j, blkAt ρ (G.set k .dead) j = some g := fun g hg =>
  ⟨hok.lt hg, fun ⟨j, hj⟩ => (blkAt_dead hj).1 (h.inj j k g (blkAt_dead hj).2 (hbk.trans hg))⟩
 have hbase : St w0 M H0 ρ' H G' w1 := by
  refine ⟨h1.os.trans h.os, h1.tape.trans h.tape, h1.output.trans h.output, Nat.le_trans h.size h1.size, fun b hb hnm => ?_, h.hle, fun b o v e => h1.hin b o v (a2 b o v e), h.hnew, h1.len, h1.ok, fun j g hg => ⟨?_, fun o => ?_⟩, h1.inj⟩
  ·have hs := h.size
   have hnM : ¬ ∃ j, blkAt ρ (G.set k .dead) j = some b := fun hm => by
    rcases hM b hm with h2 | h2
    ·omega
    ·exact hnm h2
   exact (h1.old b (by omega) hnM).trans (h.old b hb hnm)
  ·rcases (h1.own j g hg).1 with h2 | h2
   ·have hs := h.size
    exact .inl (by omega)
   ·exact hM g h2
  ·have h2 := (h1.own j g hg).2 o
   cases h3 : H g o with
   | none => rfl
   | some v => rw [a2 g o v h3] at h2; cases h2
 refine hbase.adopt (s := .row t sz n xs) (r := x) (hok.move (w' := w1) fun g hg => h1.old g (hself g hg).1 (hself g hg).2) fun g hg => ?_
 have h2 := h.own k g (hbk.trans hg)
 refine ⟨h2.1, h2.2, fun j hj => ?_⟩
 rcases (h1.own j g hj).1 with h3 | h3
 ·have := (hself g hg).1; omega
 ·exact (hself g hg).2 h3
section
variable {P : Program} {n e : Nat} {D : Pin}
def backF (x : Value) (j : Nat) (F' F2 : Fr) : Prop := ∀ p ∈ F2, p ∈ F' ∨ (p.2 = .si (.ce (.self j)) ∧ (p.1, .si (.ce (.val x))) ∈ F')
noncomputable def tailC (c : Code) (d : Nat) : Code :=
 @Code.rec (fun _ => Nat → Code) (fun _ => .skip) (fun id ops draw _ => .region id ops draw)
  (fun x y _ ihy d => @Nat.rec (fun _ => Code) (.seq x y) (fun d' _ => ihy d') d)
  (fun c x y _ _ _ => .cond c x y) (fun id c _ _ => .block id c) (fun c _ _ => .loop c) (fun f p a b _ _ _ => .rangeFunc f p a b)
  (fun id _ => .exit id) (fun c _ _ => .scope c) (fun l _ => .label l) (fun l _ => .goto l) (fun _ => .ret) (fun m _ => .refuse m) c d
def codeXS (P : Program) (T : Tab) (n e : Nat) (D : Pin) (c : Code) (d : Nat) (Q : Fr → Hp → List SB → Prop) (K : KT) (F : Fr) (H : Hp) (G : List SB) : Prop :=
 @Code.rec (fun _ => Nat → Fr → Hp → List SB → Prop) (fun _ => Q) (fun _ _ _ _ => Q)
  (fun x _ _ ihy d F H G => @Nat.rec (fun _ => Prop) (Q F H G) (fun d' _ => codeX P T n e D x (thenK (ihy d') K) F H G) d)
  (fun _ _ _ _ _ _ => Q) (fun _ _ _ _ => Q) (fun _ _ _ => Q) (fun _ _ _ _ _ _ _ => Q)
  (fun _ _ => Q) (fun _ _ _ => Q) (fun _ _ => Q) (fun _ _ => Q) (fun _ => Q) (fun _ _ => Q) c d F H G
def isSeq : Code → Bool
 | .seq _ _ => true
 | _ => false
theorem isSeq_of {c : Code} (h : isSeq c = true) : ∃ x y, c = .seq x y := by
 cases c <;> first | exact ⟨_, _, rfl⟩ | cases h
theorem tailC_no {c : Code} {d : Nat} (h : isSeq c = false) : tailC c d = c := by
 cases c <;> first | rfl | cases h
theorem codeXS_no {T : Tab} {c : Code} {d : Nat} {Q : Fr → Hp → List SB → Prop} {K : KT} {F : Fr} {H : Hp} {G : List SB} (hc : isSeq c = false) (h : codeXS P T n e D c d Q K F H G) : Q F H G := by
 cases c <;> first | exact h | cases hc
theorem W.ofL {T : Tab} (hT : TabOk P T) {K : KT} {H0 : Hp} : ∀ (d : Nat) (c : Code) {Q : Fr → Hp → List SB → Prop} {F : Fr} {H : Hp} {G : List SB}, H0.Le H → codeXS P T n e D c d Q K F H G → (∀ F' H' G', H0.Le H' → Q F' H' G' → W P n e D (tailC c d) K F' H' G') → W P n e D c K F H G := by
 intro d
 induction d with
 | zero =>
  intro c Q F H G hle h h2
  cases hc : isSeq c with
  | true => obtain ⟨x, y, rfl⟩ := isSeq_of hc; exact h2 _ _ _ hle h
  | false => have := h2 _ _ _ hle (codeXS_no hc h); rwa [tailC_no hc] at this
 | succ d ih =>
  intro c Q F H G hle h h2
  cases hc : isSeq c with
  | true =>
   obtain ⟨x, y, rfl⟩ := isSeq_of hc
   have h' : codeX P T n e D x (thenK (codeXS P T n e D y d Q K) K) F H G := h
   refine W.seq (W.mono (codeX_ok hT x h') fun xx F' H' G' hle2 he => ?_)
   cases xx with
   | normal => exact ih y (hle.trans hle2) he h2
   | _ => exact he
  | false => have := h2 _ _ _ hle (codeXS_no hc h); rwa [tailC_no hc] at this
theorem codeL.cutTo {T : Tab} (hT : TabOk P T) (d : Nat) {c : Code} {K : KT} {F : Fr} {H : Hp} {G : List SB} (I : Fr → Hp → List SB → Prop) (h : codeXS P T n e D c d (Meets e I) K F H G)
  (h2 : ∀ F' H' G', H.Le H' → I F' H' G' → codeL P n e D (tailC c d) K F' H' G') : codeL P n e D c K F H G :=
 ⟨W.ofL (H0 := H) hT d c (.refl _) h fun F' H' G' hle he => by
  obtain ⟨F2, G2, σ, h1, h3, h4, h5⟩ := he
  exact W.sub σ (h2 F2 H' G2 hle h1).to h3 h4 h5⟩
theorem codeL.lend {T : Tab} (hT : TabOk P T) (d : Nat) {c : Code} {K : KT} {F : Fr} {H : Hp} {G : List SB} (k : Nat) {t : TypeId} {sz m : Nat} {xs : List Value} (hk : G[k]? = some (.row t sz m xs)) (hz : m = 0 → xs = [])
  (h : ∀ x0 H1, H.Le H1 → Frozen H1 x0 m xs → codeXS P T n e D c d (fun F' _ G' => ∃ F2, backF x0 G'.length F' F2 ∧ codeL P n e D (tailC c d) K F2 H (G' ++ [.row t sz m xs])) (fun _ _ _ _ => False) (frameAt k x0 F) H1 ((G.set k .dead).map (SB.at k x0))) :
  codeL P n e D c K F H G := by
 refine ⟨fun w0 M hgd H0 ρ a w hs hf hd hn => ?_⟩
 obtain ⟨x0, H1, M1, b1, b2, b3, b4, b5, b6⟩ := hs.lend hgd hk hz
 have hf' : FOk ρ (frameAt k x0 F) a.tmps := by
  intro i sv hi
  obtain ⟨⟨j, s⟩, hm, he⟩ := List.mem_map.1 hi
  injection he with e1 e2; subst e1 e2
  obtain ⟨v, h1, h2⟩ := hf j s hm
  exact ⟨v, h1, h2.at b4⟩
 have fin : ∀ (z : Code) (ρ' : List Value) (F' : Fr) (H' : Hp) (G' : List SB) (a : Act) (w1 : World), PreE e ρ ρ' → St w M1 H1 ρ' H' G' w1 → FOk ρ' F' a.tmps → D.On a → a.tmps.size = n →
   (∃ F2, backF x0 G'.length F' F2 ∧ codeL P n e D z K F2 H (G' ++ [.row t sz m xs])) → z.wp P (PostX n e D w0 M H0 ρ H K) a w1 := by
  rintro z ρ' F' H' G' a w1 hp hs2 hf2 hd2 hn2 ⟨F2, c6, c7⟩
  refine wp_mono (c7.to w0 M hgd H0 (ρ' ++ [x0]) a w1 (b6 ρ' H' G' w1 hs2) ?_ hd2 hn2) (PostX.le (hp.trans (Pre.append _ _).toE) (.refl _))
  rintro i sv hi
  rcases c6 _ hi with hi | ⟨hsv, hi⟩
  ·exact (hf2.mono (Pre.append _ _)) i sv hi
  ·obtain ⟨v, d1, d2⟩ := hf2 i _ hi
   obtain rfl : v = x0 := d2
   obtain rfl : sv = _ := hsv
   refine ⟨v, d1, ?_⟩
   show (ρ' ++ [v])[G'.length]? = some v
   rw [← hs2.len]; simp
 have go : ∀ (d : Nat) (c : Code) (ρ' : List Value) (F' : Fr) (H' : Hp) (G' : List SB) (a : Act) (w1 : World), PreE e ρ ρ' → St w M1 H1 ρ' H' G' w1 → FOk ρ' F' a.tmps → D.On a → a.tmps.size = n →
   codeXS P T n e D c d (fun F' _ G' => ∃ F2, backF x0 G'.length F' F2 ∧ codeL P n e D (tailC c d) K F2 H (G' ++ [.row t sz m xs])) (fun _ _ _ _ => False) F' H' G' → c.wp P (PostX n e D w0 M H0 ρ H K) a w1 := by
  intro d
  induction d with
  | zero =>
   intro c ρ' F' H' G' a w1 hp hs2 hf2 hd2 hn2 hw
   cases hc : isSeq c with
   | true => obtain ⟨x, y, rfl⟩ := isSeq_of hc; exact fin _ ρ' F' H' G' a w1 hp hs2 hf2 hd2 hn2 hw
   | false => have h2 := codeXS_no hc hw; rw [tailC_no hc] at h2; exact fin c ρ' F' H' G' a w1 hp hs2 hf2 hd2 hn2 h2
  | succ d ih =>
   intro c ρ' F' H' G' a w1 hp hs2 hf2 hd2 hn2 hw
   cases hc : isSeq c with
   | true =>
    obtain ⟨x, y, rfl⟩ := isSeq_of hc
    have hw' : codeX P T n e D x (thenK (codeXS P T n e D y d (fun F' _ G' => ∃ F2, backF x0 G'.length F' F2 ∧ codeL P n e D (tailC y d) K F2 H (G' ++ [.row t sz m xs])) (fun _ _ _ _ => False)) (fun _ _ _ _ => False)) F' H' G' := hw
    refine wp_seq (wp_mono (codeX_ok hT x hw' w M1 b5 H1 ρ' a w1 hs2 hf2 hd2 hn2) fun xx a1 w1 he => ?_)
    cases xx with
    | normal =>
     obtain ⟨h1, h0, F3, ρ3, H3, G3, h2, hq, h3, h4, h5⟩ := he
     exact ih y ρ3 F3 H3 G3 a1 w1 (hp.trans hq) h2 h3 h1 h0 h5
    | outgrown => exact he.elim
    | panic ch => obtain ⟨_, _, _, _, _, _, _, h7⟩ := he; exact h7.elim
    | _ => obtain ⟨_, _, _, _, _, _, _, _, _, _, h7⟩ := he; exact h7.elim
   | false => have h2 := codeXS_no hc hw; rw [tailC_no hc] at h2; exact fin c ρ' F' H' G' a w1 hp hs2 hf2 hd2 hn2 h2
 exact go d c ρ (frameAt k x0 F) H1 _ a w (.refl _ _) (b1.atAll b4) hf' hd hn (h x0 H1 b2 b3)
theorem codeL.nilCell {c : Code} {K : KT} {F : Fr} {H : Hp} {G : List SB} (k i : Nat) {t : TypeId} {cs : List SC} (et sz : Nat) (hk : G[k]? = some (.box t cs)) (hi : cs[i]? = some (.val (.slice none 0 0)))
  (h : codeL P n e D c K F H (G.set k (.box t (cs.set i (.self G.length))) ++ [.row et sz 0 []])) : codeL P n e D c K F H G :=
 ⟨fun w0 M hgd H0 _ a w hs hf hd hn => wp_mono (h.to w0 M hgd H0 _ a w (hs.nilCell et sz hk hi) (hf.mono (Pre.append _ _)) hd hn) (PostX.le (Pre.append _ _).toE (.refl _))⟩
theorem codeL.seqBlock {id : Nat} {c y : Code} {K : KT} {F : Fr} {H : Hp} {G : List SB} (h : codeL P n e D c (blockK id (thenK (codeL P n e D y K) K)) F H G) : codeL P n e D (.seq (.block id c) y) K F H G :=
 ⟨W.seq (W.block (W.mono h.to fun xx F' H' G' _ he => by
  cases xx with
  | normal => exact he.to
  | exit j =>
   simp only [blockK] at he ⊢
   split
   ·rename_i hj; rw [hj] at he; exact he.to
   ·rename_i hj; rw [hj] at he; exact he
  | _ => exact he))⟩
theorem QO.min3 {o : Oper} {x y z : Operand} {ts : Array TypeId} (ho : o.op = .call ⟨.builtin .min, #[x, y, z], ts⟩) {F : Fr} {H : Hp} {G : List SB} {K : SV → Prop} (k : IntKind) (a b c : Int)
  (hx : evX x F fun sv => sv = pv (.int k a)) (hy : evX y F fun sv => sv = pv (.int k b)) (hz : evX z F fun sv => sv = pv (.int k c)) (h : K (pv (.int k (minB (minB a b) c)))) : QO P o F H G K := by
 obtain ⟨sx, rfl, hx⟩ := evX_ok hx
 obtain ⟨sy, rfl, hy⟩ := evX_ok hy
 obtain ⟨sz, rfl, hz⟩ := evX_ok hz
 refine ⟨_, h, fun ρ act wc hf hw => ⟨_, rfl, fun w hw' => ?_⟩⟩
 have e1 : act.eval x = .int k a := hx ρ act hf
 have e2 : act.eval y = .int k b := hy ρ act hf
 have e3 : act.eval z = .int k c := hz ρ act hf
 simp [execOp, ho, resolve, invoke, builtin, Builtin.min_, Builtin.min2, minB, e1, e2, e3]
 congr
end
end Go.Kx
