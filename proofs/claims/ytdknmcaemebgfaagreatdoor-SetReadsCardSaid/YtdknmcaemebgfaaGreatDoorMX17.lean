/- A tree of nodes as a value: klaxonmade.Tree.Value. No condition of its own. -/
import Derived.Test.YtdknmcaemebgfaaGreatDoorMX16
namespace Go.Kx.Tr
open Go.Proofs Go.Kx Go.RowKit Go.Kx.Js Go.Kx.Pr Go.Kx.Rt Go.Kx.Ob
set_option maxRecDepth 20000
set_option linter.unusedSimpArgs false
def T : Tab := [(34, { k := TK.st [(0, 3, 1), (1, 4, 1), (2, 9, 1), (3, 31, 1), (4, 32, 1)], agg := true, size := 5, bytes := 80, zero := [Z.i IntKind.i64, Z.b, Z.s, Z.sl, Z.sl] }), (52, { k := TK.st [(0, 9, 1), (1, 34, 5)], agg := true, size := 6, bytes := 96, zero := [Z.s, Z.i IntKind.i64, Z.b, Z.s, Z.sl, Z.sl] }), (87, { k := TK.st [(0, 3, 1), (1, 3, 1), (2, 4, 1), (3, 9, 1), (4, 9, 1)], agg := true, size := 5, bytes := 56, zero := [Z.i IntKind.i64, Z.i IntKind.i64, Z.b, Z.s, Z.s] }), (45, { k := TK.slice 87, agg := false, size := 1, bytes := 24, zero := [Z.sl] }), (32, { k := TK.slice 52, agg := false, size := 1, bytes := 24, zero := [Z.sl] }), (31, { k := TK.slice 34, agg := false, size := 1, bytes := 24, zero := [Z.sl] }), (9, { k := TK.string, agg := false, size := 1, bytes := 16, zero := [Z.s] }), (3, { k := TK.int IntKind.i64, agg := false, size := 1, bytes := 8, zero := [Z.i IntKind.i64] }), (4, { k := TK.bool, agg := false, size := 1, bytes := 1, zero := [Z.b] })]
set_option maxRecDepth 100000 in
theorem tab : TabOk Tryz.prog T := tabOk_mk (ts := [34, 52, 87, 45, 32, 31, 9, 3, 4]) (by kernel_rfl)
structure Nd where
 kind : Int
 kids : Int
 yes : Bool
 text : ByteArray
 name : ByteArray
def ndC (x : Nd) : List Value := [.int .i64 x.kind, .int .i64 x.kids, .bool x.yes, .string x.text, .string x.name]
theorem szMs_mem {m : ByteArray × J} : ∀ {l : List (ByteArray × J)}, m ∈ l → m.1.size + Ro.szJ m.2 + 1 ≤ Ro.szMs l
 | (s, j) :: r, h => by
  rcases List.mem_cons.1 h with rfl | h
  ·simp only [Ro.szMs]; omega
  ·have := szMs_mem h; simp only [Ro.szMs]; omega
theorem sub_get {zs : List Value} {o : Nat} {ys : List Value} (h : (zs.drop o).take 6 = ys) (j : Nat) (x : Value) (hx : ys[j]? = some x) : zs[o + j]? = some x := by
 subst h
 rw [List.getElem?_take] at hx
 split at hx
 ·rw [List.getElem?_drop] at hx; exact hx
 ·cases hx
theorem mem_cells {H : Hp} {ms : List (ByteArray × J)} {zs : List Value} (h : MsAt H ms zs) {i : Nat} (hi : i < ms.length) : ∃ s j k y t A n c B m e, ms[i]? = some (s, j) ∧ JAt H j [.int .i64 k, .bool y, .string t, .slice A n c, .slice B m e] ∧ (zs.drop (i * 6)).take 6 = [.string s, .int .i64 k, .bool y, .string t, .slice A n c, .slice B m e] := by
 obtain ⟨⟨s, j⟩, hs⟩ : ∃ x, ms[i]? = some x := ⟨_, List.getElem?_eq_getElem hi⟩
 obtain ⟨cs, hj, hz⟩ := h.get hs
 obtain ⟨A, n, c, B, m, e, rfl⟩ := hj.cells
 exact ⟨s, j, _, _, _, _, _, _, _, _, _, hs, hj, hz⟩
theorem ndC_len (xs : List Nd) : (xs.flatMap ndC).length = xs.length * 5 := by
 induction xs with
 | nil => rfl
 | cons a r ih => rw [List.flatMap_cons, List.length_append, ih]; simp [ndC]; omega
theorem nd_get : ∀ {xs : List Nd} {i : Nat} {x : Nd}, xs[i]? = some x → ∀ (j : Nat) (y : Value), (ndC x)[j]? = some y → (xs.flatMap ndC)[i * 5 + j]? = some y
 | a :: r, 0, x, h, j, y, hy => by
  simp at h
  subst h
  have hj := (List.getElem?_eq_some_iff.1 hy).1
  rw [List.flatMap_cons, List.getElem?_append_left (by omega), Nat.zero_mul, Nat.zero_add]
  exact hy
 | a :: r, i + 1, x, h, j, y, hy => by
  rw [List.flatMap_cons, List.getElem?_append_right (by simp [ndC]; omega)]
  have := nd_get (xs := r) (i := i) (x := x) (by simpa using h) j y hy
  rw [show (i + 1) * 5 + j - (ndC a).length = i * 5 + j by simp [ndC]; omega]
  exact this
 | [], _, _, h, _, _, _ => by simp at h
theorem rdn_at {H : Hp} {A : Option Addr} {zs : List Value} (hv : RdV H A zs) {o : Nat} {ys : List Value} (h0 : zs.length ≠ 0) (h : ∀ (j : Nat) (x : Value), ys[j]? = some x → zs[o + j]? = some x) : RdN H A o ys := by
 obtain ⟨b, a, rfl⟩ := hv.addr2 h0
 obtain ⟨b2, a2, e, h2⟩ := hv.2 _ rfl
 injection e with e
 injection e with e1 e2
 subst e1 e2
 refine ⟨b, a, rfl, fun j x hx => ?_⟩
 have := h2 (o + j) x (h j x hx)
 rw [← this]
 congr 1
 omega
theorem szMs_app : ∀ a b : List (ByteArray × J), Ro.szMs (a ++ b) = Ro.szMs a + Ro.szMs b
 | [], b => by simp [Ro.szMs]
 | (s, j) :: r, b => by simp only [List.cons_append, Ro.szMs, szMs_app r b]; omega
theorem szMs_take (l : List (ByteArray × J)) (q : Nat) : Ro.szMs (l.take q) ≤ Ro.szMs l := by
 have := szMs_app (l.take q) (l.drop q)
 rw [List.take_append_drop] at this
 omega
theorem msAt_take {H : Hp} : ∀ (k : Nat) {a : List (ByteArray × J)} {xs : List Value}, MsAt H a xs → MsAt H (a.take k) (xs.take (k * 6))
 | 0, _, _, h => by simp; exact .nil
 | k + 1, _, _, .nil => by simp; exact .nil
 | k + 1, _, _, .cons (s := s) (cs := cs) (xs := xs) h1 h2 => by
  have hl := h1.length
  rw [List.take_succ_cons, show List.take ((k + 1) * 6) (Value.string s :: cs ++ xs) = Value.string s :: cs ++ xs.take (k * 6) by
   rw [List.take_append, List.take_of_length_le (by rw [List.length_cons]; omega), List.length_cons]; congr 2; omega]
  exact .cons h1 (msAt_take k h2)
theorem tree_ (xs : List Nd) (A : Option Addr) (c : Nat) (H : Hp) (hv : xs = [] ∨ RdN H A 0 (xs.flatMap ndC)) :
  CallO Tryz.prog 16 [pv (.slice A xs.length c)] H [] fun e H' G' => (∃ b k y t A n c B m d, e = .ret (.tu [.ag [.val (.int .i64 k), .val (.bool y), .val (.string t), .val (.slice A n c), .val (.slice B m d)], .ce (.val (.bool b))]) ∧ (b = true → ∃ j, JAt H' j [.int .i64 k, .bool y, .string t, .slice A n c, .slice B m d] ∧ Ro.szJ j ≤ 8000)) ∧ H.Le H' ∧ G' = [] := by
 refine CallO.of_body tab Tryz.func16 rfl (nt := Tryz.f16.ntmps) rfl (by kernel_rfl) ?_
 (conv => whnf)
 refine br.of (fun h1 => ?_) (fun h1 => ?_) <;> (conv => whnf)
 ·refine ⟨⟨false, _, _, _, _, _, _, _, _, _, rfl, fun e => (nomatch e)⟩, .refl _, rfl⟩
 have h40 : xs.length ≤ 40 := by have := of_decide_eq_false h1; omega
 refine WS.nilRow 4 52 6 rfl ?_
 (conv => whnf)
 refine WS.loop (fun k' F H5 G => ∃ (i m : Nat) (ms : List (ByteArray × J)) (zs : List Value), i ≤ xs.length ∧ k' = xs.length - i ∧ m = ms.length ∧ m ≤ i ∧ MsAt H5 ms zs ∧ Ro.szMs ms ≤ 200 * i ∧ F = [(2, .si (.ce (.ptr 0 0))), (3, pv (.bool false)), (4, .si (.ce (.self 1))), (16, pv (.slice A xs.length c)), (17, pv (.int .i64 xs.length)), (18, pv (.int .i64 i))] ∧ H.Le H5 ∧ G = [.box 34 [.val (.int .i64 0), .val (.bool false), .val (.string ⟨#[]⟩), .val (.slice none 0 0), .val (.slice none 0 0)], .row 52 6 m zs]) (xs.length + 1) ?_ ?_
 ·refine ⟨xs.length, by omega, _, _, [0, 1], ⟨0, 0, [], [], by omega, rfl, rfl, by omega, .nil, by simp [Ro.szMs], rfl, .refl _, rfl⟩, ?_⟩
  exact ⟨rfl, ⟨rfl, rfl, trivial⟩, rfl, rfl, rfl, rfl, rfl, rfl, trivial⟩
 rintro k' F H5 G hle5 ⟨i, m, ms, zs, hi, rfl, hm, hmi, hms, hsz, rfl, hle5', rfl⟩
 have hzl : zs.length = m * 6 := by rw [hm]; exact hms.length
 refine codeL.cutTo tab 2 (fun F H6 G => F = [(2, .si (.ce (.ptr 0 0))), (3, pv (.bool false)), (4, .si (.ce (.self 1))), (16, pv (.slice A xs.length c)), (17, pv (.int .i64 xs.length)), (18, pv (.int .i64 i))] ∧ H6 = H5 ∧ i < xs.length ∧ G = [.box 34 [.val (.int .i64 0), .val (.bool false), .val (.string ⟨#[]⟩), .val (.slice none 0 0), .val (.slice none 0 0)], .row 52 6 m zs]) ?_ ?_
 ·(conv => whnf)
  refine br.of (fun h7 => ?_) (fun h7 => ?_) <;> (conv => whnf)
  ·have h7 := of_decide_eq_true h7
   refine ⟨_, _, [0, 1], ⟨rfl, rfl, by omega, rfl⟩, ?_⟩
   exact ⟨rfl, ⟨rfl, rfl, trivial⟩, rfl, rfl, rfl, rfl, rfl, rfl, trivial⟩
  ·rcases Nat.eq_zero_or_pos m with h0 | h0
   ·rw [h0]
    (conv => whnf)
    refine ⟨⟨false, _, _, _, _, _, _, _, _, _, rfl, fun e => (nomatch e)⟩, hle5', rfl⟩
   rw [show ((m : Int) == 0) = false by rw [beq_eq_false_iff_ne]; omega]
   (conv => whnf)
   rw [wrap64 (x := (m : Int) - 1) (by omega) (by omega)]
   obtain ⟨sl, jl, kl, yl, tl, Al, nl, cl, Bl, ml, el, hsl, hjl, hcl⟩ := mem_cells hms (i := m - 1) (by omega)
   refine ⟨⟨by omega, by omega⟩, ?_⟩
   (conv => whnf)
   refine ⟨[.int .i64 kl, .bool yl, .string tl, .slice Al nl cl, .slice Bl ml el], rfl, fun j x hx => ?_, ?_⟩
   ·show zs[((m : Int) - 1).toNat * 6 + 1 + j]? = some x
    rw [show ((m : Int) - 1).toNat * 6 + 1 + j = (m - 1) * 6 + (j + 1) by omega]
    exact sub_get hcl (j + 1) x hx
   (conv => whnf)
   have h2 := szMs_mem (List.mem_of_getElem? hsl)
   refine ⟨⟨true, kl, yl, tl, Al, nl, cl, Bl, ml, el, rfl, fun _ => ⟨jl, hjl, ?_⟩⟩, hle5', rfl⟩
   dsimp only at h2
   omega
 rintro F H6 G hle6 ⟨rfl, rfl, hilt, rfl⟩
 replace hv : RdV H A (xs.flatMap ndC) := by
  rcases hv with h | h
  ·rw [h] at hilt; simp at hilt
  ·exact ⟨fun e => (by obtain ⟨b, o, e2, _⟩ := h; rw [e] at e2; cases e2), fun a e => e ▸ h⟩
 refine codeL.seqBlock ?_
 obtain ⟨kd, kk, ky, kt, kn, hx⟩ : ∃ kd kk ky kt kn, xs[i]? = some (⟨kd, kk, ky, kt, kn⟩ : Nd) := ⟨_, _, _, _, _, List.getElem?_eq_getElem hilt⟩
 have hnd : ∀ (j : Nat) (x : Value), (ndC ⟨kd, kk, ky, kt, kn⟩)[j]? = some x → (xs.flatMap ndC)[i * 5 + j]? = some x := nd_get hx
 have hi40 : (i : Int).toNat = i := rfl
 refine codeL.cutTo tab 5 (fun F H7 G => ∃ n : Nat, n ≤ m ∧ n ≤ 6 ∧ (¬ (kd = 5 ∨ kd = 6) → n = 0) ∧ kt.size ≤ 100 ∧ kn.size ≤ 60 ∧ F = [(2, .si (.ce (.ptr 0 0))), (3, pv (.bool false)), (4, .si (.ce (.self 1))), (6, .si (.ce (.ptr 2 0))), (7, .si (.ce (.ptr 3 0))), (8, pv (.int .i64 n)), (16, pv (.slice A xs.length c)), (17, pv (.int .i64 xs.length)), (18, pv (.int .i64 i))] ∧ H7 = H6 ∧
   G = [.box 34 [.val (.int .i64 0), .val (.bool false), .val (.string ⟨#[]⟩), .val (.slice none 0 0), .val (.slice none 0 0)], .row 52 6 m zs, .box 87 [.val (.int .i64 kd), .val (.int .i64 kk), .val (.bool ky), .val (.string kt), .val (.string kn)], .box 34 [.val (.int .i64 kd), .val (.bool ky), .val (.string kt), .val (.slice none 0 0), .val (.slice none 0 0)]]) ?_ ?_
 ·(conv => whnf)
  refine ⟨⟨by omega, by omega⟩, ?_, ?_⟩
  ·exact hv.addr2 (by rw [ndC_len]; omega)
  (conv => whnf)
  refine ⟨[.int .i64 kd, .int .i64 kk, .bool ky, .string kt, .string kn], rfl, rdn_at (hv.mono (hle5'.trans hle6)) (by rw [ndC_len]; omega) hnd, ?_⟩
  (conv => whnf)
  have stop : (H6.Le H6) := .refl _
  refine br.of (fun h8 => ?_) (fun h8 => ?_) <;> (conv => whnf)
  ·refine ⟨⟨false, _, _, _, _, _, _, _, _, _, rfl, fun e => (nomatch e)⟩, hle5', rfl⟩
  have h8 := of_decide_eq_false h8
  refine br.of (fun h9 => ?_) (fun h9 => ?_) <;> (conv => whnf)
  ·refine ⟨⟨false, _, _, _, _, _, _, _, _, _, rfl, fun e => (nomatch e)⟩, hle5', rfl⟩
  have h9 := of_decide_eq_false h9
  have hmin : ∃ n : Nat, minB (minB (maxB kk 0) m) 6 = n ∧ n ≤ m ∧ n ≤ 6 := by
   refine ⟨(minB (minB (maxB kk 0) m) 6).toNat, ?_, ?_, ?_⟩ <;> unfold minB maxB <;> split <;> (try split) <;> (try split) <;> omega
  refine br.of (fun h10 => ?_) (fun h10 => ?_) <;> (conv => whnf)
  ·have h10 := beq_iff_eq.1 h10
   change QO _ _ _ _ _ _
   refine QO.min3 (x := .tmp 50) (y := .tmp 52) (z := .const (.int .i64 6)) (ts := #[3, 3, 3]) ?_ .i64 (maxB kk 0) m 6 ?_ ?_ ?_ ?_
   ·rfl
   ·rfl
   ·rfl
   ·rfl
   obtain ⟨n, hn, hnm, hn6⟩ := hmin
   rw [hn]
   (conv => whnf)
   refine ⟨_, _, [0, 1, 2, 3], ⟨n, hnm, hn6, fun h => absurd (by omega) h, by omega, by omega, rfl, rfl, rfl⟩, ?_⟩
   exact ⟨rfl, ⟨rfl, rfl, rfl, rfl, trivial⟩, rfl, rfl, rfl, rfl, rfl, rfl, rfl, rfl, rfl, trivial⟩
  have h10 := beq_eq_false_iff_ne.1 h10
  refine br.of (fun h11 => ?_) (fun h11 => ?_) <;> (conv => whnf)
  ·have h11 := beq_iff_eq.1 h11
   change QO _ _ _ _ _ _
   refine QO.min3 (x := .tmp 50) (y := .tmp 52) (z := .const (.int .i64 6)) (ts := #[3, 3, 3]) ?_ .i64 (maxB kk 0) m 6 ?_ ?_ ?_ ?_
   ·rfl
   ·rfl
   ·rfl
   ·rfl
   obtain ⟨n, hn, hnm, hn6⟩ := hmin
   rw [hn]
   (conv => whnf)
   refine ⟨_, _, [0, 1, 2, 3], ⟨n, hnm, hn6, fun h => absurd (by omega) h, by omega, by omega, rfl, rfl, rfl⟩, ?_⟩
   exact ⟨rfl, ⟨rfl, rfl, rfl, rfl, trivial⟩, rfl, rfl, rfl, rfl, rfl, rfl, rfl, rfl, rfl, trivial⟩
  have h11 := beq_eq_false_iff_ne.1 h11
  refine ⟨_, _, [0, 1, 2, 3], ⟨0, by omega, by omega, fun _ => rfl, by omega, by omega, rfl, rfl, rfl⟩, ?_⟩
  exact ⟨rfl, ⟨rfl, rfl, rfl, rfl, trivial⟩, rfl, rfl, rfl, rfl, rfl, rfl, rfl, rfl, rfl, trivial⟩
 rintro F H7 G hle7 ⟨n, hnm, hn6, hn0, hkt, hkn, rfl, rfl, rfl⟩
 refine codeL.nilCell 3 3 34 5 rfl rfl ?_
 refine codeL.nilCell 3 4 52 6 rfl rfl ?_
 refine codeL.lend tab 2 1 (t := 52) (sz := 6) (m := m) (xs := zs) rfl (fun h => List.eq_nil_of_length_eq_zero (by omega)) ?_
 intro x0 H8 hle8 hfr
 obtain ⟨A0, c0, rfl, hv0, hmc⟩ : ∃ A0 c0, x0 = .slice A0 m c0 ∧ RdV H8 A0 zs ∧ m ≤ c0 := by
  rcases hfr with ⟨rfl, h1, h2⟩ | ⟨g, o, cap, rfl, h3, h2⟩
  ·subst h1
   exact ⟨none, 0, rfl, ⟨fun _ => h2, fun _ e => (nomatch e)⟩, Nat.le_refl _⟩
  ·exact ⟨_, cap, rfl, ⟨fun e => (nomatch e), fun a e => by injection e with e; subst e; exact h2⟩, h3⟩
 have hkid : ∀ q, q < n → (∃ b o, subA A0 c0 (m - n) 6 = some ⟨b, o, none⟩) ∧ ∀ cells : List Value, (∀ (j : Nat) (x : Value), cells[j]? = some x → zs[(m - n + q) * 6 + j]? = some x) → RdN H8 (subA A0 c0 (m - n) 6) (q * 6) cells := by
  intro q hq
  obtain ⟨b0, o0, rfl⟩ := hv0.addr2 (by omega)
  obtain ⟨b1, o1, e5, hrd⟩ := hv0.2 _ rfl
  injection e5 with e5
  injection e5 with e1 e2
  subst e1 e2
  have e : subA (some ⟨b0, o0, none⟩) c0 (m - n) 6 = some ⟨b0, o0 + (m - n) * 6, none⟩ := by unfold subA; rw [if_neg (by omega)]; simp [Addr.add]
  refine ⟨⟨_, _, e⟩, fun cells hc => ?_⟩
  rw [e]
  refine ⟨_, _, rfl, fun j x hx => ?_⟩
  have := hrd _ x (hc j x hx)
  rw [← this]
  congr 1
  omega
 (conv => whnf)
 rw [wrap64 (x := (m : Int) - n) (by omega) (by omega), show (m : Int) - n = ((m - n : Nat) : Int) by omega]
 refine ⟨⟨by omega, by omega⟩, ?_⟩
 (conv => whnf)
 have hmn : m - (m - n) = n := by omega
 refine WS.loop (fun k' F H9 G => ∃ (q p r : Nat) (js : List J) (ys : List Value) (ks : List (ByteArray × J)) (us : List Value), q ≤ n ∧ k' = n - q ∧ H8.Le H9 ∧ p = js.length ∧ r = ks.length ∧ p ≤ q ∧ r ≤ q ∧ JsAt H7 js ys ∧ MsAt H7 ks us ∧ Ro.szJs js + Ro.szMs ks ≤ Ro.szMs ((ms.drop (m - n)).take q) ∧
   F = [(2, .si (.ce (.ptr 0 0))), (3, pv (.bool false)), (4, pv (.slice A0 m c0)), (6, .si (.ce (.ptr 2 0))), (7, .si (.ce (.ptr 3 0))), (8, pv (.int .i64 n)), (16, pv (.slice A xs.length c)), (17, pv (.int .i64 xs.length)), (18, pv (.int .i64 i)), (60, pv (.slice (subA A0 c0 (m - n) 6) (m - (m - n)) (c0 - (m - n)))), (61, pv (.int .i64 (m - (m - n) : Nat))), (62, pv (.int .i64 q))] ∧
   G = [.box 34 [.val (.int .i64 0), .val (.bool false), .val (.string ⟨#[]⟩), .val (.slice none 0 0), .val (.slice none 0 0)], .dead, .box 87 [.val (.int .i64 kd), .val (.int .i64 kk), .val (.bool ky), .val (.string kt), .val (.string kn)], .box 34 [.val (.int .i64 kd), .val (.bool ky), .val (.string kt), .self 4, .self 5], .row 34 5 p ys, .row 52 6 r us]) (n + 1) ?_ ?_
 ·refine ⟨n, by omega, _, _, [0, 1, 2, 3, 4, 5], ⟨0, 0, 0, [], [], [], [], by omega, rfl, .refl _, rfl, rfl, by omega, by omega, .nil, .nil, by simp [Ro.szJs, Ro.szMs], rfl, rfl⟩, ?_⟩
  exact ⟨rfl, ⟨rfl, trivial, rfl, rfl, rfl, rfl, trivial⟩, rfl, rfl, rfl, rfl, rfl, rfl, rfl, rfl, rfl, rfl, rfl, rfl, trivial⟩
 rintro k' F H9 G hle9 ⟨q, p, r, js, ys, ks, us, hq, rfl, hle9', hp, hr, hpq, hrq, hjs, hks, hsz2, rfl, rfl⟩
 refine codeL.go tab ?_
 (conv => whnf)
 refine br.of (fun h12 => ?_) (fun h12 => ?_) <;> (conv => whnf)
 ·have h12 := of_decide_eq_true h12
  have hqn : q < n := by omega
  obtain ⟨had, hcel⟩ := hkid q hqn
  obtain ⟨sm, jm, km, ym, tm, Am, nm, cm, Bm, mm, em, hsm, hjm, hcm⟩ := mem_cells hms (i := m - n + q) (by omega)
  have hstep : Ro.szMs ((ms.drop (m - n)).take (q + 1)) = Ro.szMs ((ms.drop (m - n)).take q) + (sm.size + Ro.szJ jm + 1) := by
   rw [List.take_add_one, List.getElem?_drop, hsm, Option.toList_some, Ro.szMs_snoc]
  refine ⟨⟨by omega, by omega⟩, had, ?_⟩
  (conv => whnf)
  refine ⟨[.string sm, .int .i64 km, .bool ym, .string tm, .slice Am nm cm, .slice Bm mm em], rfl, (hcel _ fun j x hx => sub_get hcm j x hx).mono hle9', ?_⟩
  (conv => whnf)
  refine br.of (fun h13 => ?_) (fun h13 => ?_) <;> (conv => whnf)
  ·refine ⟨by decide, .inl ?_⟩
   intro g H10 hle10 hrd
   (conv => whnf)
   refine ⟨[.int .i64 km, .bool ym, .string tm, .slice Am nm cm, .slice Bm mm em], rfl, hrd, ones_J hjm, ?_⟩
   (conv => whnf)
   refine ⟨Nat.le_trans (Nat.mul_le_mul_right _ (show p + 1 ≤ 7 by omega)) (Nat.le_of_ble_eq_true rfl), ?_⟩
   (conv => whnf)
   rw [wrap64 (x := (q : Int) + 1) (by omega) (by omega)]
   refine ⟨n - (q + 1), by omega, _, _, [0, 1, 2, 3, 7, 5], ⟨q + 1, p + 1, r, js ++ [jm], _, ks, us, by omega, rfl, hle9'.trans hle10, by rw [List.length_append, hp]; rfl, hr, by omega, by omega, hjs.snoc hjm, hks, ?_, rfl, rfl⟩, ?_⟩
   ·rw [hstep, Ro.szJs_snoc]; omega
   exact ⟨rfl, ⟨rfl, trivial, rfl, rfl, rfl, rfl, trivial⟩, rfl, rfl, rfl, rfl, rfl, rfl, rfl, rfl, rfl, rfl, rfl, rfl, trivial⟩
  ·refine ⟨by decide, .inl ?_⟩
   intro g H10 hle10 hrd
   (conv => whnf)
   refine ⟨[.string sm, .int .i64 km, .bool ym, .string tm, .slice Am nm cm, .slice Bm mm em], rfl, hrd, ?_, ?_⟩
   ·intro u hu
    rcases List.mem_cons.1 hu with rfl | hu
    ·rfl
    ·exact ones_J hjm u hu
   (conv => whnf)
   refine ⟨Nat.le_trans (Nat.mul_le_mul_right _ (show r + 1 ≤ 7 by omega)) (Nat.le_of_ble_eq_true rfl), ?_⟩
   (conv => whnf)
   rw [wrap64 (x := (q : Int) + 1) (by omega) (by omega)]
   refine ⟨n - (q + 1), by omega, _, _, [0, 1, 2, 3, 4, 7], ⟨q + 1, p, r + 1, js, ys, ks ++ [(sm, jm)], _, by omega, rfl, hle9'.trans hle10, hp, by rw [List.length_append, hr]; rfl, by omega, by omega, hjs, hks.snoc hjm, ?_, rfl, rfl⟩, ?_⟩
   ·rw [hstep, Ro.szMs_snoc]; omega
   exact ⟨rfl, ⟨rfl, trivial, rfl, rfl, rfl, rfl, trivial⟩, rfl, rfl, rfl, rfl, rfl, rfl, rfl, rfl, rfl, rfl, rfl, rfl, trivial⟩
 have h12 := of_decide_eq_false h12
 refine ⟨[(2, .si (.ce (.ptr 0 0))), (3, pv (.bool false)), (4, .si (.ce (.self 6))), (6, .si (.ce (.ptr 2 0))), (7, .si (.ce (.ptr 3 0))), (8, pv (.int .i64 n)), (16, pv (.slice A xs.length c)), (17, pv (.int .i64 xs.length)), (18, pv (.int .i64 i))], ?_, ?_⟩
 ·intro x hx
  simp only [List.mem_cons, List.mem_nil_iff, or_false] at hx
  rcases hx with rfl | rfl | rfl | rfl | rfl | rfl | rfl | rfl | rfl
  ·exact .inl (by simp)
  ·exact .inl (by simp)
  ·exact .inr ⟨rfl, List.mem_cons_of_mem _ (List.mem_cons_of_mem _ (List.mem_cons_of_mem _ (List.mem_cons_self ..)))⟩
  ·exact .inl (by simp)
  ·exact .inl (by simp)
  ·exact .inl (by simp)
  ·exact .inl (by simp)
  ·exact .inl (by simp)
  ·exact .inl (by simp)
 refine codeL.frz 4 (t := 34) (sz := 5) (m := p) (xs := ys) rfl (fun h => List.eq_nil_of_length_eq_zero (by rw [hjs.length, ← hp, h])) ?_
 intro x4 H11 hle11 hfr4
 obtain ⟨C, cc, rfl, hvC⟩ := Js.RdV.of_frozen hfr4
 refine codeL.frz 5 (t := 52) (sz := 6) (m := r) (xs := us) rfl (fun h => List.eq_nil_of_length_eq_zero (by rw [hks.length, ← hr, h])) ?_
 intro x5 H12 hle12 hfr5
 obtain ⟨E, ce, rfl, hvE⟩ := Js.RdV.of_frozen hfr5
 have hjv : JAt H12 (.mk kd ky kt js ks) [.int .i64 kd, .bool ky, .string kt, .slice C p cc, .slice E r ce] := .mk hp (hjs.mono (hle11.trans hle12)) (hvC.mono hle12) hr (hks.mono (hle11.trans hle12)) hvE
 refine codeL.go tab ?_
 (conv => whnf)
 refine WS.draw tab Ob.mixed (.take 0 (.take 1 (.take 3 (.take 6 (.take 7 (.take 8 (.take 9 (.alt 2 (.alt 4 (.alt 5 (.alt 10 (.alt 11 (.take 12 .done) .no) .no) (.alt 10 (.alt 5 (.alt 11 (.take 12 .done) .no) .no) .no)) (.alt 10 (.alt 4 (.alt 5 (.alt 11 (.take 12 .done) .no) .no) .no) .no)) (.alt 10 (.alt 2 (.alt 4 (.alt 5 (.alt 11 (.take 12 .done) .no) .no) .no) .no) .no))))))))) (by kernel_rfl) [6] ?_
 (conv => whnf)
 have hone6 : ∀ u ∈ [Value.string kn, .int .i64 kd, .bool ky, .string kt, .slice C p cc, .slice E r ce], u.oneCell' = true := fun u hu => by
  simp only [List.mem_cons, List.mem_nil_iff, or_false] at hu
  rcases hu with rfl | rfl | rfl | rfl | rfl | rfl <;> rfl
 have hb50 : m - n - 0 + 1 ≤ 50 := by omega
 have hml : ms.length = m := hm.symm
 have hnl : (ms.take (m - n) ++ [(kn, J.mk kd ky kt js ks)]).length = m - n - 0 + 1 := by rw [List.length_append, List.length_take]; simp; omega
 have hns : Ro.szMs (ms.take (m - n) ++ [(kn, J.mk kd ky kt js ks)]) ≤ 200 * (i + 1) := by
  have h1 := szMs_app (ms.take (m - n)) (ms.drop (m - n))
  rw [List.take_append_drop] at h1
  have h2 := szMs_take (ms.drop (m - n)) q
  rw [Ro.szMs_snoc]
  simp only [Ro.szJ]
  omega
 have hlH : H7.Le H12 := hle11.trans hle12
 have hnew : MsAt H12 (ms.take (m - n) ++ [(kn, J.mk kd ky kt js ks)]) (zs.take ((m - n - 0) * 6) ++ [.string kn, .int .i64 kd, .bool ky, .string kt, .slice C p cc, .slice E r ce]) := ((msAt_take (m - n) hms).mono hlH).snoc hjv
 have hfin : H.Le H12 := (hle5'.trans hle6).trans (hle7.trans hlH)
 repeat' (first
  | exact trivial
  | exact ⟨rfl, trivial, rfl, rfl, trivial, trivial, trivial, trivial⟩
  | (refine ⟨Nat.le_of_ble_eq_true rfl, .inl ?_⟩; intro g H13 hle13 hrd; (conv => whnf))
  | (rw [wrap64 (x := (m : Int) - n) (by omega) (by omega), show (m : Int) - n = ((m - n : Nat) : Int) by omega]; refine ⟨⟨by omega, by omega, by omega⟩, ?_⟩; (conv => whnf))
  | (refine ⟨[.string kn, .int .i64 kd, .bool ky, .string kt, .slice C p cc, .slice E r ce], rfl, hrd, hone6, ?_⟩; (conv => whnf))
  | (refine ⟨Nat.le_trans (Nat.mul_le_mul_right _ hb50) (Nat.le_of_ble_eq_true rfl), ?_⟩; (conv => whnf))
  | (refine And.intro ?_ ?_ <;> (conv => whnf)))
 all_goals refine codeL.go tab ?_
 all_goals (conv => whnf)
 all_goals rw [wrap64 (x := (i : Int) + 1) (by omega) (by omega)]
 all_goals refine ⟨xs.length - (i + 1), by omega, _, _, [0, 8], ⟨i + 1, m - n - 0 + 1, _, _, by omega, rfl, hnl.symm, by omega, hnew.mono hle13, hns, rfl, hfin.trans hle13, rfl⟩, ?_⟩
 all_goals exact ⟨rfl, ⟨rfl, rfl, trivial⟩, rfl, rfl, rfl, rfl, rfl, rfl, trivial⟩
end Go.Kx.Tr
namespace Go.Kx.L13
open Go.Proofs Go.Kx Go.RowKit Go.Kx.Js Go.Kx.Pr Go.Kx.Rt Go.Kx.Ob Go.Kx.Wo Go.Kx.Cl Go.Kx.Pa Go.Kx.Su Go.Kx.Se
set_option maxRecDepth 20000
set_option linter.unusedSimpArgs false
namespace Sw
def T : Tab := [(9, { k := TK.string, agg := false, size := 1, bytes := 16, zero := [Z.s] }), (3, { k := TK.int IntKind.i64, agg := false, size := 1, bytes := 8, zero := [Z.i IntKind.i64] }), (25, { k := TK.st [(0, 9, 1), (1, 9, 1), (2, 9, 1), (3, 3, 1), (4, 9, 1), (5, 23, 3), (8, 3, 1), (9, 9, 1)], agg := true, size := 10, bytes := 144, zero := [Z.s, Z.s, Z.s, Z.i IntKind.i64, Z.s, Z.s, Z.s, Z.s, Z.i IntKind.i64, Z.s] }), (23, { k := TK.st [(0, 9, 1), (1, 9, 1), (2, 9, 1)], agg := true, size := 3, bytes := 48, zero := [Z.s, Z.s, Z.s] }), (34, { k := TK.st [(0, 3, 1), (1, 4, 1), (2, 9, 1), (3, 31, 1), (4, 32, 1)], agg := true, size := 5, bytes := 80, zero := [Z.i IntKind.i64, Z.b, Z.s, Z.sl, Z.sl] }), (52, { k := TK.st [(0, 9, 1), (1, 34, 5)], agg := true, size := 6, bytes := 96, zero := [Z.s, Z.i IntKind.i64, Z.b, Z.s, Z.sl, Z.sl] }), (45, { k := TK.slice 87, agg := false, size := 1, bytes := 24, zero := [Z.sl] }), (4, { k := TK.bool, agg := false, size := 1, bytes := 1, zero := [Z.b] }), (35, { k := TK.int IntKind.i64, agg := false, size := 1, bytes := 8, zero := [Z.i IntKind.i64] }), (55, { k := TK.slice 5, agg := false, size := 1, bytes := 24, zero := [Z.sl] }), (31, { k := TK.slice 34, agg := false, size := 1, bytes := 24, zero := [Z.sl] }), (32, { k := TK.slice 52, agg := false, size := 1, bytes := 24, zero := [Z.sl] }), (87, { k := TK.st [(0, 3, 1), (1, 3, 1), (2, 4, 1), (3, 9, 1), (4, 9, 1)], agg := true, size := 5, bytes := 56, zero := [Z.i IntKind.i64, Z.i IntKind.i64, Z.b, Z.s, Z.s] }), (5, { k := TK.int IntKind.u8, agg := false, size := 1, bytes := 1, zero := [Z.i IntKind.u8] })]
set_option maxRecDepth 100000 in
theorem tab : TabOk Tryz.prog T := tabOk_mk (ts := [9, 3, 25, 23, 34, 52, 45, 4, 35, 55, 31, 32, 87, 5]) (by kernel_rfl)
end Sw
theorem same_sym {a b : J} (h : sameP a b = true) : sameP b a = true := by
 unfold sameP at h ⊢
 simp only [Bool.and_eq_true, beq_iff_eq] at h ⊢
 exact ⟨⟨h.1.2, h.1.1⟩, h.2.symm⟩
theorem setReads (xs : List Tr.Nd) (A : Option Addr) (cp : Nat) (H : Hp) (hE : ErrH H) (hv : xs = [] ∨ RdN H A 0 (xs.flatMap Tr.ndC)) : CallO Tryz.prog 4 [pv (.slice A xs.length cp)] H [] fun e _ _ => e = .ret (pv (.bool true)) := by
 refine CallO.of_body Sw.tab Tryz.func4 rfl (nt := Tryz.f4.ntmps) rfl (by kernel_rfl) ?_
 (conv => whnf)
 refine ⟨⟨_, Tryz.func8, rfl, by kernel_rfl⟩, CallS.use (anchor_ H hE) [] rfl rfl trivial ?_⟩
 rintro e H2 G' hle2 ⟨rfl, _, rfl⟩
 (conv => whnf)
 refine ⟨⟨_, Tryz.func16, rfl, by kernel_rfl⟩, CallS.use (Tr.tree_ xs A cp H2 (hv.imp id (RdN.mono hle2))) [] rfl rfl trivial ?_⟩
 rintro e H3 G' hle3 ⟨⟨bb, k, y, t, A1, n1, c1, B1, m1, d1, rfl, hbj⟩, hle3', rfl⟩
 cases bb
 ·(conv => whnf)
  rfl
 obtain ⟨j, hj, hsz⟩ := hbj rfl
 have hsm : smJ j := Ro.sm_of j (by omega)
 have hw6 : 6 * (wrJ j).length ≤ 8000000 := by have := Ro.wr_of j; omega
 (conv => whnf)
 refine ⟨⟨_, Tryz.func14, rfl, by kernel_rfl⟩, CallS.use (of_ j hsm hw6 k y t A1 n1 c1 B1 m1 d1 H3 (hE.mono (hle2.trans hle3)) hj) [] rfl rfl trivial ?_⟩
 rintro e H4 G' hle4 ⟨ho, hle4', rfl⟩
 cases hc : ofP j with
 | none =>
  rw [hc] at ho
  obtain rfl : e = .ret (.tu [.ag (csC clm0), .ce (.val (.int .i64 10))]) := ho
  (conv => whnf)
  change QO _ _ _ _ _ _
  refine eqClm (x := .tmp 28) (y := .tmp 29) ?_ clm0 clm0 ?_ ?_ fit0 fit0 ?_
  ·rfl
  ·rfl
  ·rfl
  intro r hr
  obtain rfl : r = true := hr.2 rfl
  (conv => whnf)
  rfl
 | some c =>
  rw [hc] at ho
  obtain rfl : e = .ret (.tu [.ag (csC c), .ce (.val (.int .i64 0))]) := ho
  obtain ⟨hR, hs⟩ := of_some hc
  have hr : clRight c = true := (right_iff c).2 hR
  have hk : -9223372036854775808 ≤ c.kind ∧ c.kind ≤ 9223372036854775807 := by have := hR.kind; omega
  (conv => whnf)
  have hval := value0 c.iss c.jti c.aud c.iat c.txn c.sub.fmt c.sub.id c.sub.own c.kind c.reason hk H4
  rw [show valP ⟨c.iss, c.jti, c.aud, c.iat, c.txn, ⟨c.sub.fmt, c.sub.id, c.sub.own⟩, c.kind, c.reason⟩ = (clJ c, 0) from if_pos hr] at hval
  refine ⟨⟨_, Tryz.func10, rfl, by kernel_rfl⟩, CallS.use hval [] rfl rfl trivial ?_⟩
  rintro e H5 G' hle5 ⟨⟨k2, y2, t2, A2, n2, c2, B2, m2, d2, rfl, hj2⟩, hle5', rfl⟩
  (conv => whnf)
  have hsame := same_ j (clJ c) hsm (cl_sm hR) hw6 (cl_wr6 hR) k y t A1 n1 c1 B1 m1 d1 k2 y2 t2 A2 n2 c2 B2 m2 d2 H5 (hj.mono (hle4.trans hle5)) hj2
  rw [same_sym hs] at hsame
  refine ⟨⟨_, Tryz.func17, rfl, by kernel_rfl⟩, CallS.use hsame [] rfl rfl trivial ?_⟩
  rintro e H6 G' hle6 ⟨rfl, hle6', rfl⟩
  (conv => whnf)
  have hright := right0 c.iss c.jti c.aud c.iat c.txn c.sub.fmt c.sub.id c.sub.own c.kind c.reason hk H6
  rw [show clRight ⟨c.iss, c.jti, c.aud, c.iat, c.txn, ⟨c.sub.fmt, c.sub.id, c.sub.own⟩, c.kind, c.reason⟩ = true from hr] at hright
  refine ⟨⟨_, Tryz.func11, rfl, by kernel_rfl⟩, CallS.use hright [] rfl rfl trivial ?_⟩
  rintro e H7 G' hle7 ⟨rfl, hle7', rfl⟩
  (conv => whnf)
  rfl
end Go.Kx.L13
