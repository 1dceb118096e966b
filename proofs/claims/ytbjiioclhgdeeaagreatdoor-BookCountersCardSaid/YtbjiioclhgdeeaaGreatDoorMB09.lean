/- Values as texts: a value is written. No condition of its own. -/
import Derived.Test.YtbjiioclhgdeeaaGreatDoorMB08
import Derived.Test.YtbjiioclhgdeeaaGreatDoorProg
import Derived.Shelf.Sort.Plain
import Derived.Shelf.Slices.CompactS
import Derived.Sort.OwnSorted
namespace Go.Kx.Wr
open Go.Proofs Go.Kx Go.RowKit Go.Kx.Js Go.Kx.Bu Go.Kx.Pr
set_option maxRecDepth 20000
set_option linter.unusedSimpArgs false
def T : Tab := [(114, { k := TK.st [(0, 3, 1), (1, 4, 1), (2, 9, 1), (3, 111, 1), (4, 112, 1)], agg := true, size := 5, bytes := 80, zero := [Z.i IntKind.i64, Z.b, Z.s, Z.sl, Z.sl] }), (313, { k := TK.st [(0, 9, 1), (1, 114, 5)], agg := true, size := 6, bytes := 96, zero := [Z.s, Z.i IntKind.i64, Z.b, Z.s, Z.sl, Z.sl] }), (242, { k := TK.st [(0, 240, 1), (1, 94, 1)], agg := true, size := 2, bytes := 32, zero := [Z.p, Z.sl] }), (5, { k := TK.int IntKind.u8, agg := false, size := 1, bytes := 1, zero := [Z.i IntKind.u8] }), (240, { k := TK.ptr 242, agg := false, size := 1, bytes := 8, zero := [Z.p] }), (3, { k := TK.int IntKind.i64, agg := false, size := 1, bytes := 8, zero := [Z.i IntKind.i64] }), (4, { k := TK.bool, agg := false, size := 1, bytes := 1, zero := [Z.b] }), (9, { k := TK.string, agg := false, size := 1, bytes := 16, zero := [Z.s] }), (149, { k := TK.ifc, agg := false, size := 1, bytes := 16, zero := [Z.ifc] }), (111, { k := TK.slice 114, agg := false, size := 1, bytes := 24, zero := [Z.sl] }), (112, { k := TK.slice 313, agg := false, size := 1, bytes := 24, zero := [Z.sl] }), (94, { k := TK.slice 5, agg := false, size := 1, bytes := 24, zero := [Z.sl] })]
set_option maxRecDepth 100000 in
theorem tab : TabOk Tryz.prog T := tabOk_mk (ts := [114, 313, 242, 5, 240, 3, 4, 9, 149, 111, 112, 94]) (by kernel_rfl)
theorem mixed : Tryz.prog.follows .mixedOrders = true := by kernel_rfl
theorem formatBool (y : Bool) (H : Hp) : CallO Tryz.prog 237 [pv (.bool y)] H [] fun e H' G' => H' = H ∧ e = .ret (pv (.string ⟨if y then #[116, 114, 117, 101] else #[102, 97, 108, 115, 101]⟩)) ∧ G' = [] := by
 have h : CallO Tryz.prog 300 [pv (.bool y)] H [] fun e H' G' => H' = H ∧ e = .ret (pv (.string ⟨if y then #[116, 114, 117, 101] else #[102, 97, 108, 115, 101]⟩)) ∧ G' = [] := by
  refine CallO.of_body tab Tryz.func300 rfl (nt := Tryz.f300.ntmps) rfl (by kernel_rfl) ?_
  cases y
  all_goals
   (conv => whnf)
   exact ⟨rfl, rfl, rfl⟩
 refine CallO.of_body tab Tryz.func237 rfl (nt := Tryz.f237.ntmps) rfl (by kernel_rfl) ?_
 (conv => whnf)
 refine ⟨⟨_, Tryz.func300, rfl, by kernel_rfl⟩, CallS.use h [] rfl rfl trivial ?_⟩
 rintro e H2 G' hle ⟨rfl, rfl, rfl⟩
 (conv => whnf)
 exact ⟨rfl, rfl, rfl⟩
theorem wrJs_count : ∀ (first : Bool) (js : List J), js.length ≤ (wrJs first js).length + (if first then 1 else 0)
 | _, [] => by simp
 | first, j :: r => by
  have := wrJs_count false r
  simp only [wrJs, List.length_append, List.length_cons] at *
  cases first <;> simp at * <;> omega
theorem wrMs_count : ∀ (first : Bool) (ms : List (ByteArray × J)), ms.length ≤ (wrMs first ms).length + (if first then 1 else 0)
 | _, [] => by simp
 | first, (s, j) :: r => by
  have := wrMs_count false r
  simp only [wrMs, List.length_append, List.length_cons] at *
  cases first <;> simp at * <;> omega
def WSays (j : J) : Prop := ∀ (w : Bool) (bs : List UInt8), bs.length + 6 * (wrJ j).length ≤ 8000000 → ∀ (k : Int) (y : Bool) (t : ByteArray) (A : Option Addr) (n c : Nat) (B : Option Addr) (m d : Nat) (H : Hp), JAt H j [.int .i64 k, .bool y, .string t, .slice A n c, .slice B m d] →
 CallO Tryz.prog 171 [agJ k y t A n c B m d, .si (.ce (.ptr 0 0))] H [bB w (.self 1), rB bs] fun e H' G' => e = .ret (.tu []) ∧ H.Le H' ∧ G' = [bB true (.self 2), .dead, rB (bs ++ wrJ j)]
theorem WSays.use {j : J} (h : WSays j) (w : Bool) (bs : List UInt8) (hn : bs.length + 6 * (wrJ j).length ≤ 8000000) {k : Int} {y : Bool} {t : ByteArray} {A : Option Addr} {n c : Nat} {B : Option Addr} {m d : Nat} {H : Hp} (hj : JAt H j [.int .i64 k, .bool y, .string t, .slice A n c, .slice B m d]) :
 CallO Tryz.prog 171 [agJ k y t A n c B m d, .si (.ce (.ptr 0 0))] H [bB w (.self 1), rB bs] fun e H' G' => e = .ret (.tu []) ∧ H.Le H' ∧ G' = [bB true (.self 2), .dead, rB (bs ++ wrJ j)] := h w bs hn k y t A n c B m d H hj
theorem write0 (b : Bool) (bs : List UInt8) (k : Int) (y : Bool) (t : ByteArray) (js : List J) (ms : List (ByteArray × J)) (hr : rightJ (.mk k y t js ms) = true) (hjs : ∀ (i : Nat) (j : J), js[i]? = some j → WSays j) (hms : ∀ (i : Nat) (s : ByteArray) (j : J), ms[i]? = some (s, j) → WSays j)
  (hn : bs.length + 6 * (wrJ (.mk k y t js ms)).length ≤ 8000000) (A : Option Addr) (n c : Nat) (B : Option Addr) (m d : Nat) (H : Hp) (hj : JAt H (.mk k y t js ms) [.int .i64 k, .bool y, .string t, .slice A n c, .slice B m d]) :
 CallO Tryz.prog 171 [agJ k y t A n c B m d, .si (.ce (.ptr 0 0))] H [bB b (.self 1), rB bs] fun e H' G' => e = .ret (.tu []) ∧ H.Le H' ∧ ((k ≠ 5 ∧ k ≠ 6 ∧ ∃ x, G' = [bB true (.self 3), .dead, x, rB (bs ++ wrJ (.mk k y t js ms))]) ∨ ((k = 5 ∨ k = 6) ∧ ∃ x1 x2, G' = [bB true (.self 4), .dead, x1, x2, rB (bs ++ wrJ (.mk k y t js ms))])) := by
 have hwr : wrJ (.mk k y t js ms) = if k = 1 then [110, 117, 108, 108] else if k = 2 then (if y then [116, 114, 117, 101] else [102, 97, 108, 115, 101]) else if k = 3 then t.data.toList else if k = 4 then quoteB t.data.toList else
  if k = 5 then [91] ++ wrJs true js ++ [93] else if k = 6 then [123] ++ wrMs true ms ++ [125] else [] := by rw [wrJ]
 have hts : t.data.toList.length = t.size := by rw [Array.length_toList]; rfl
 have leaf3 : ∀ (out : List UInt8) (x : SB) (e : SE) (H' : Hp) (G' : List SB), wrJ (.mk k y t js ms) = out → k ≠ 5 → k ≠ 6 → e = .ret (.tu []) → H.Le H' → G' = [bB true (.self 3), .dead, x, rB (bs ++ out)] →
   e = .ret (.tu []) ∧ H.Le H' ∧ ((k ≠ 5 ∧ k ≠ 6 ∧ ∃ x, G' = [bB true (.self 3), .dead, x, rB (bs ++ wrJ (.mk k y t js ms))]) ∨ ((k = 5 ∨ k = 6) ∧ ∃ x1 x2, G' = [bB true (.self 4), .dead, x1, x2, rB (bs ++ wrJ (.mk k y t js ms))])) := by
  intro out x e H' G' h1 h2 h3 h4 h5 h6
  rw [h1]
  exact ⟨h4, h5, .inl ⟨h2, h3, x, h6⟩⟩
 have leaf4 : ∀ (out : List UInt8) (x1 x2 : SB) (e : SE) (H' : Hp) (G' : List SB), wrJ (.mk k y t js ms) = out → (k = 5 ∨ k = 6) → e = .ret (.tu []) → H.Le H' → G' = [bB true (.self 4), .dead, x1, x2, rB (bs ++ out)] →
   e = .ret (.tu []) ∧ H.Le H' ∧ ((k ≠ 5 ∧ k ≠ 6 ∧ ∃ x, G' = [bB true (.self 3), .dead, x, rB (bs ++ wrJ (.mk k y t js ms))]) ∨ ((k = 5 ∨ k = 6) ∧ ∃ x1 x2, G' = [bB true (.self 4), .dead, x1, x2, rB (bs ++ wrJ (.mk k y t js ms))])) := by
  intro out x1 x2 e H' G' h1 h2 h4 h5 h6
  rw [h1]
  exact ⟨h4, h5, .inr ⟨h2, x1, x2, h6⟩⟩
 have hr2 := hr
 unfold rightJ at hr2
 rw [Bool.and_eq_true] at hr2
 replace hr2 := hr2.2
 cases hj with
 | mk hn1 hx1 hv1 hn2 hx2 hv2 =>
 rename_i xs zs
 refine CallO.of_body tab Tryz.func171 rfl (nt := Tryz.f171.ntmps) rfl (by kernel_rfl) ?_
 cases b
 all_goals
  (conv => whnf)
  refine br.of (fun h1 => ?_) (fun h1 => ?_) <;> (conv => whnf)
  ·simp only [beq_iff_eq] at h1
   have hk : wrJ (.mk k y t js ms) = [110, 117, 108, 108] := by rw [hwr, if_pos h1]
   first
    | refine ⟨⟨_, Tryz.func167, rfl, by kernel_rfl⟩, CallS.use (writeString true bs ⟨#[110, 117, 108, 108]⟩ (by omega) (by decide) H) [0, 1] rfl rfl ⟨rfl, rfl, trivial⟩ ?_⟩
    | refine ⟨⟨_, Tryz.func167, rfl, by kernel_rfl⟩, CallS.use (writeString false bs ⟨#[110, 117, 108, 108]⟩ (by omega) (by decide) H) [0, 1] rfl rfl ⟨rfl, rfl, trivial⟩ ?_⟩
   rintro e H2 G' hle2 ⟨rfl, hl2, rfl⟩
   (conv => whnf)
   exact leaf3 _ _ _ _ _ hk (by omega) (by omega) rfl hl2 rfl
  simp only [beq_eq_false_iff_ne, ne_eq] at h1
  refine br.of (fun h2 => ?_) (fun h2 => ?_) <;> (conv => whnf)
  ·simp only [beq_iff_eq] at h2
   have hk : wrJ (.mk k y t js ms) = (if y then [116, 114, 117, 101] else [102, 97, 108, 115, 101]) := by rw [hwr, if_neg h1, if_pos h2]
   refine ⟨⟨_, Tryz.func237, rfl, by kernel_rfl⟩, CallS.use (formatBool y H) [] rfl rfl trivial ?_⟩
   rintro e H1 G' hle1 ⟨rfl, rfl, rfl⟩
   (conv => whnf)
   first
    | refine ⟨⟨_, Tryz.func167, rfl, by kernel_rfl⟩, CallS.use (writeString true bs ⟨if y then #[116, 114, 117, 101] else #[102, 97, 108, 115, 101]⟩ (by omega) (by cases y <;> decide) H1) [0, 1] rfl rfl ⟨rfl, rfl, trivial⟩ ?_⟩
    | refine ⟨⟨_, Tryz.func167, rfl, by kernel_rfl⟩, CallS.use (writeString false bs ⟨if y then #[116, 114, 117, 101] else #[102, 97, 108, 115, 101]⟩ (by omega) (by cases y <;> decide) H1) [0, 1] rfl rfl ⟨rfl, rfl, trivial⟩ ?_⟩
   rintro e H2 G' hle2 ⟨rfl, hl2, rfl⟩
   (conv => whnf)
   exact leaf3 _ _ _ _ _ (hk.trans (by cases y <;> rfl)) (by omega) (by omega) rfl hl2 rfl
  simp only [beq_eq_false_iff_ne, ne_eq] at h2
  refine br.of (fun h3 => ?_) (fun h3 => ?_) <;> (conv => whnf)
  ·simp only [beq_iff_eq] at h3
   have hk : wrJ (.mk k y t js ms) = t.data.toList := by rw [hwr, if_neg h1, if_neg h2, if_pos h3]
   rw [hk] at hn
   first
    | refine ⟨⟨_, Tryz.func167, rfl, by kernel_rfl⟩, CallS.use (writeString true bs t (by omega) (by omega) H) [0, 1] rfl rfl ⟨rfl, rfl, trivial⟩ ?_⟩
    | refine ⟨⟨_, Tryz.func167, rfl, by kernel_rfl⟩, CallS.use (writeString false bs t (by omega) (by omega) H) [0, 1] rfl rfl ⟨rfl, rfl, trivial⟩ ?_⟩
   rintro e H2 G' hle2 ⟨rfl, hl2, rfl⟩
   (conv => whnf)
   exact leaf3 _ _ _ _ _ hk (by omega) (by omega) rfl hl2 rfl
  simp only [beq_eq_false_iff_ne, ne_eq] at h3
  refine br.of (fun h4 => ?_) (fun h4 => ?_) <;> (conv => whnf)
  ·simp only [beq_iff_eq] at h4
   have hk : wrJ (.mk k y t js ms) = quoteB t.data.toList := by rw [hwr, if_neg h1, if_neg h2, if_neg h3, if_pos h4]
   have hql := quoteB_len t.data.toList
   rw [hk] at hn
   first
    | refine ⟨⟨_, Tryz.func238, rfl, by kernel_rfl⟩, CallS.use (quote_ true bs t (by omega) H) [0, 1] rfl rfl ⟨rfl, rfl, trivial⟩ ?_⟩
    | refine ⟨⟨_, Tryz.func238, rfl, by kernel_rfl⟩, CallS.use (quote_ false bs t (by omega) H) [0, 1] rfl rfl ⟨rfl, rfl, trivial⟩ ?_⟩
   rintro e H2 G' hle2 ⟨rfl, hl2, rfl⟩
   (conv => whnf)
   exact leaf3 _ _ _ _ _ hk (by omega) (by omega) rfl hl2 rfl
  simp only [beq_eq_false_iff_ne, ne_eq] at h4
  refine br.of (fun h5 => ?_) (fun h5 => ?_) <;> (conv => whnf)
  ·simp only [beq_iff_eq] at h5
   have hk : wrJ (.mk k y t js ms) = [91] ++ wrJs true js ++ [93] := by rw [hwr, if_neg h1, if_neg h2, if_neg h3, if_neg h4, if_pos h5]
   rw [hk] at hn
   simp only [List.length_append, List.length_cons, List.length_nil] at hn
   first
    | refine ⟨⟨_, Tryz.func239, rfl, by kernel_rfl⟩, CallS.use (writeByte true bs 91 91 rfl (by omega) H) [0, 1] rfl rfl ⟨rfl, rfl, trivial⟩ ?_⟩
    | refine ⟨⟨_, Tryz.func239, rfl, by kernel_rfl⟩, CallS.use (writeByte false bs 91 91 rfl (by omega) H) [0, 1] rfl rfl ⟨rfl, rfl, trivial⟩ ?_⟩
   rintro e H2 G' hle2 ⟨rfl, hl2, rfl⟩
   (conv => whnf)
   subst hn1
   have hcnt : js.length ≤ (wrJs true js).length + 1 := by have := wrJs_count true js; simpa using this
   refine WS.loop (fun k' F H3 G => ∃ i : Nat, i ≤ (List.length js) ∧ k' = (List.length js) - i ∧ F = [(1, .si (.ce (.ptr 0 0))), (38, pv (.slice A js.length c)), (39, pv (.int .i64 js.length)), (40, pv (.int .i64 i))] ∧ H2.Le H3 ∧ G = [bB true (.self 3), .dead, .dead, rB (bs ++ [91] ++ wrJs true (js.take i))]) ((List.length js) + 1) ?_ ?_
   ·refine ⟨(List.length js), by omega, _, _, [0, 1, 2, 3], ⟨0, by omega, rfl, rfl, .refl _, by rw [List.take_zero, wrJs, List.append_nil]⟩, ?_⟩
    exact ⟨rfl, ⟨rfl, trivial, trivial, rfl, trivial⟩, rfl, rfl, rfl, rfl, trivial⟩
   rintro k' F H3 G hle3 ⟨i, hi, rfl, rfl, hle4, rfl⟩
   have hpre := wrJs_pre js true i
   refine codeL.go tab ?_
   (conv => whnf)
   refine br.of (fun h7 => ?_) (fun h7 => ?_) <;> (conv => whnf)
   ·have h7 := of_decide_eq_true h7
    have hil : i < (List.length js) := by omega
    have hget : js[i]? = some (js[i]'hil) := List.getElem?_eq_getElem _
    generalize js[i]'hil = e0 at hget
    obtain ⟨cs, hj0, hcs⟩ := hx1.get hget
    obtain ⟨A2, n2, c2, B2, m2, d2, rfl⟩ := hj0.cells
    have hw0 := hjs i e0 hget
    have hlen0 : xs.length ≠ 0 := by rw [hx1.length]; omega
    refine ⟨⟨by omega, by omega⟩, hv1.addr2 hlen0, ?_⟩
    (conv => whnf)
    refine ⟨_, rfl, ((hv1.mono (hl2.trans hle4))).cells2 hlen0 hcs (by show (i : Int).toNat * 5 = _; omega), ?_⟩
    (conv => whnf)
    have htk := wrJs_take hget true
    have hpre2 := wrJs_pre js true (i + 1)
    rw [htk] at hpre2
    simp only [List.length_append, List.length_cons, List.length_nil] at hpre2
    have hwi : IntKind.i64.wrap ((i : Int) + 1) = ((i + 1 : Nat) : Int) := by rw [wrap64 (by omega) (by omega)]; omega
    have hjm := hj0.mono (hl2.trans hle4)
    cases i with
    | zero =>
     refine ⟨⟨_, Tryz.func240, rfl, by kernel_rfl⟩, CallS.use (comma0 true (bs ++ [91] ++ wrJs true (js.take 0)) H3) [0, 3] rfl rfl ⟨rfl, rfl, trivial⟩ ?_⟩
     rintro e H4 G' hle5 ⟨rfl, rfl, rfl⟩
     (conv => whnf)
     refine ⟨⟨_, Tryz.func171, rfl, by kernel_rfl⟩, CallS.use (hw0.use true (bs ++ [91] ++ wrJs true (js.take 0)) (by simp only [List.length_append, List.length_cons, List.length_nil]; omega) hjm) [0, 3] rfl rfl ⟨rfl, rfl, trivial⟩ ?_⟩
     rintro e H5 G' hle6 ⟨rfl, hl6, rfl⟩
     (conv => whnf)
     rw [hwi]
     refine ⟨js.length - (0 + 1), by omega, _, [bB true (.self 3), .dead, .dead, rB (bs ++ [91] ++ wrJs true (js.take 0) ++ wrJ e0)], [0, 1, 2, 5], ⟨0 + 1, by omega, rfl, rfl, hle4.trans hl6, ?_⟩, ?_⟩
     ·rw [htk]
      show [_, _, _, rB _] = [_, _, _, rB _]
      congr 4
      simp [List.append_assoc]
     ·exact ⟨rfl, ⟨rfl, trivial, trivial, rfl, trivial⟩, rfl, rfl, rfl, rfl, trivial⟩
    | succ i =>
     have hcm : (if (true && Nat.beq (i + 1) 0) = true then ([] : List UInt8) else [44]) = [44] := rfl
     rw [hcm] at hpre2 htk
     simp only [List.length_cons, List.length_nil] at hpre2
     refine ⟨⟨_, Tryz.func240, rfl, by kernel_rfl⟩, CallS.use (comma1 true _ (by omega) (bs ++ [91] ++ wrJs true (js.take (i + 1))) (by simp only [List.length_append, List.length_cons, List.length_nil]; omega) H3) [0, 3] rfl rfl ⟨rfl, rfl, trivial⟩ ?_⟩
     rintro e H4 G' hle5 ⟨rfl, hl5, rfl⟩
     (conv => whnf)
     refine ⟨⟨_, Tryz.func171, rfl, by kernel_rfl⟩, CallS.use (hw0.use true (bs ++ [91] ++ wrJs true (js.take (i + 1)) ++ [44]) (by simp only [List.length_append, List.length_cons, List.length_nil]; omega) (hjm.mono hl5)) [0, 5] rfl rfl ⟨rfl, rfl, trivial⟩ ?_⟩
     rintro e H5 G' hle6 ⟨rfl, hl6, rfl⟩
     (conv => whnf)
     rw [hwi]
     refine ⟨js.length - ((i + 1) + 1), by omega, _, [bB true (.self 3), .dead, .dead, rB (bs ++ [91] ++ wrJs true (js.take (i + 1)) ++ [44] ++ wrJ e0)], [0, 1, 2, 6], ⟨(i + 1) + 1, by omega, rfl, rfl, hle4.trans ((hl5).trans hl6), ?_⟩, ?_⟩
     ·rw [htk]
      show [_, _, _, rB _] = [_, _, _, rB _]
      congr 4
      simp [List.append_assoc]
     ·exact ⟨rfl, ⟨rfl, trivial, trivial, rfl, trivial⟩, rfl, rfl, rfl, rfl, trivial⟩
   ·have h7 := of_decide_eq_false h7
    obtain rfl : i = (List.length js) := by omega
    rw [List.take_of_length_le (Nat.le_refl _)]
    refine ⟨⟨_, Tryz.func239, rfl, by kernel_rfl⟩, CallS.use (writeByte true (bs ++ [91] ++ wrJs true js) 93 93 rfl (by simp only [List.length_append, List.length_cons, List.length_nil]; omega) H3) [0, 3] rfl rfl ⟨rfl, rfl, trivial⟩ ?_⟩
    rintro e H4 G' hle5 ⟨rfl, hl5, rfl⟩
    (conv => whnf)
    exact leaf4 _ .dead .dead _ _ _ hk (by omega) rfl ((hl2.trans hle4).trans hl5) (by rw [List.append_assoc, List.append_assoc, List.append_assoc]; rfl)
  simp only [beq_eq_false_iff_ne, ne_eq] at h5
  refine br.of (fun h6 => ?_) (fun h6 => ?_) <;> (conv => whnf)
  ·simp only [beq_iff_eq] at h6
   have hk : wrJ (.mk k y t js ms) = [123] ++ wrMs true ms ++ [125] := by rw [hwr, if_neg h1, if_neg h2, if_neg h3, if_neg h4, if_neg h5, if_pos h6]
   rw [hk] at hn
   simp only [List.length_append, List.length_cons, List.length_nil] at hn
   first
    | refine ⟨⟨_, Tryz.func239, rfl, by kernel_rfl⟩, CallS.use (writeByte true bs 123 123 rfl (by omega) H) [0, 1] rfl rfl ⟨rfl, rfl, trivial⟩ ?_⟩
    | refine ⟨⟨_, Tryz.func239, rfl, by kernel_rfl⟩, CallS.use (writeByte false bs 123 123 rfl (by omega) H) [0, 1] rfl rfl ⟨rfl, rfl, trivial⟩ ?_⟩
   rintro e H2 G' hle2 ⟨rfl, hl2, rfl⟩
   (conv => whnf)
   subst hn2
   have hcnt : List.length ms ≤ (wrMs true ms).length + 1 := by have := wrMs_count true ms; simpa using this
   refine WS.loop (fun k' F H3 G => ∃ i : Nat, i ≤ (List.length ms) ∧ k' = (List.length ms) - i ∧ F = [(1, .si (.ce (.ptr 0 0))), (59, pv (.slice B (List.length ms) d)), (60, pv (.int .i64 (List.length ms))), (61, pv (.int .i64 i))] ∧ H2.Le H3 ∧ G = [bB true (.self 3), .dead, .dead, rB (bs ++ [123] ++ wrMs true (ms.take i))]) ((List.length ms) + 1) ?_ ?_
   ·refine ⟨(List.length ms), by omega, _, _, [0, 1, 2, 3], ⟨0, by omega, rfl, rfl, .refl _, by rw [List.take_zero, wrMs, List.append_nil]⟩, ?_⟩
    exact ⟨rfl, ⟨rfl, trivial, trivial, rfl, trivial⟩, rfl, rfl, rfl, rfl, trivial⟩
   rintro k' F H3 G hle3 ⟨i, hi, rfl, rfl, hle4, rfl⟩
   have hpre := wrMs_pre ms true i
   refine codeL.go tab ?_
   (conv => whnf)
   refine br.of (fun h7 => ?_) (fun h7 => ?_) <;> (conv => whnf)
   ·have h7 := of_decide_eq_true h7
    have hil : i < (List.length ms) := by omega
    have hget : ms[i]? = some (ms[i]'hil) := List.getElem?_eq_getElem _
    generalize ms[i]'hil = e0 at hget
    obtain ⟨s0, j0⟩ := e0
    obtain ⟨cs, hj0, hcs⟩ := hx2.get hget
    obtain ⟨A2, n2, c2, B2, m2, d2, rfl⟩ := hj0.cells
    have hw0 := hms i s0 j0 hget
    have hql := quoteB_len s0.data.toList
    have hs0 : s0.data.toList.length = s0.size := by rw [Array.length_toList]; rfl
    have hlen0 : zs.length ≠ 0 := by rw [hx2.length]; omega
    refine ⟨⟨by omega, by omega⟩, hv2.addr2 hlen0, ?_⟩
    (conv => whnf)
    refine ⟨_, rfl, ((hv2.mono (hl2.trans hle4))).cells2 hlen0 hcs (by show (i : Int).toNat * 6 = _; omega), ?_⟩
    (conv => whnf)
    have htk := wrMs_take hget true
    have hpre2 := wrMs_pre ms true (i + 1)
    rw [htk] at hpre2
    simp only [List.length_append, List.length_cons, List.length_nil] at hpre2
    have hwi : IntKind.i64.wrap ((i : Int) + 1) = ((i + 1 : Nat) : Int) := by rw [wrap64 (by omega) (by omega)]; omega
    have hjm := hj0.mono (hl2.trans hle4)
    cases i with
    | zero =>
     refine ⟨⟨_, Tryz.func240, rfl, by kernel_rfl⟩, CallS.use (comma0 true (bs ++ [123] ++ wrMs true (ms.take 0)) H3) [0, 3] rfl rfl ⟨rfl, rfl, trivial⟩ ?_⟩
     rintro e H4 G' hle5 ⟨rfl, rfl, rfl⟩
     (conv => whnf)
     refine ⟨⟨_, Tryz.func238, rfl, by kernel_rfl⟩, CallS.use (quote_ true (bs ++ [123] ++ wrMs true (ms.take 0)) s0 (by simp only [List.length_append, List.length_cons, List.length_nil]; omega) H4) [0, 3] rfl rfl ⟨rfl, rfl, trivial⟩ ?_⟩
     rintro e H5 G' hle6 ⟨rfl, hl6, rfl⟩
     (conv => whnf)
     refine ⟨⟨_, Tryz.func239, rfl, by kernel_rfl⟩, CallS.use (writeByte true (bs ++ [123] ++ wrMs true (ms.take 0) ++ quoteB s0.data.toList) 58 58 rfl (by simp only [List.length_append, List.length_cons, List.length_nil]; omega) H5) [0, 5] rfl rfl ⟨rfl, rfl, trivial⟩ ?_⟩
     rintro e H6 G' hle7 ⟨rfl, hl7, rfl⟩
     (conv => whnf)
     refine ⟨⟨_, Tryz.func171, rfl, by kernel_rfl⟩, CallS.use (hw0.use true (bs ++ [123] ++ wrMs true (ms.take 0) ++ quoteB s0.data.toList ++ [58]) (by simp only [List.length_append, List.length_cons, List.length_nil]; omega) (hjm.mono ((hl6.trans hl7)))) [0, 6] rfl rfl ⟨rfl, rfl, trivial⟩ ?_⟩
     rintro e H7 G' hle8 ⟨rfl, hl8, rfl⟩
     (conv => whnf)
     rw [hwi]
     refine ⟨List.length ms - (0 + 1), by omega, _, [bB true (.self 3), .dead, .dead, rB (bs ++ [123] ++ wrMs true (ms.take 0) ++ quoteB s0.data.toList ++ [58] ++ wrJ j0)], [0, 1, 2, 7], ⟨0 + 1, by omega, rfl, rfl, hle4.trans ((hl6.trans (hl7.trans hl8))), ?_⟩, ?_⟩
     ·rw [htk]
      show [_, _, _, rB _] = [_, _, _, rB _]
      congr 4
      simp [List.append_assoc]
     ·exact ⟨rfl, ⟨rfl, trivial, trivial, rfl, trivial⟩, rfl, rfl, rfl, rfl, trivial⟩
    | succ i =>
     have hcm : (if (true && Nat.beq (i + 1) 0) = true then ([] : List UInt8) else [44]) = [44] := rfl
     rw [hcm] at hpre2 htk
     simp only [List.length_cons, List.length_nil] at hpre2
     refine ⟨⟨_, Tryz.func240, rfl, by kernel_rfl⟩, CallS.use (comma1 true _ (by omega) (bs ++ [123] ++ wrMs true (ms.take (i + 1))) (by simp only [List.length_append, List.length_cons, List.length_nil]; omega) H3) [0, 3] rfl rfl ⟨rfl, rfl, trivial⟩ ?_⟩
     rintro e H4 G' hle5 ⟨rfl, hl5, rfl⟩
     (conv => whnf)
     refine ⟨⟨_, Tryz.func238, rfl, by kernel_rfl⟩, CallS.use (quote_ true (bs ++ [123] ++ wrMs true (ms.take (i + 1)) ++ [44]) s0 (by simp only [List.length_append, List.length_cons, List.length_nil]; omega) H4) [0, 5] rfl rfl ⟨rfl, rfl, trivial⟩ ?_⟩
     rintro e H5 G' hle6 ⟨rfl, hl6, rfl⟩
     (conv => whnf)
     refine ⟨⟨_, Tryz.func239, rfl, by kernel_rfl⟩, CallS.use (writeByte true (bs ++ [123] ++ wrMs true (ms.take (i + 1)) ++ [44] ++ quoteB s0.data.toList) 58 58 rfl (by simp only [List.length_append, List.length_cons, List.length_nil]; omega) H5) [0, 6] rfl rfl ⟨rfl, rfl, trivial⟩ ?_⟩
     rintro e H6 G' hle7 ⟨rfl, hl7, rfl⟩
     (conv => whnf)
     refine ⟨⟨_, Tryz.func171, rfl, by kernel_rfl⟩, CallS.use (hw0.use true (bs ++ [123] ++ wrMs true (ms.take (i + 1)) ++ [44] ++ quoteB s0.data.toList ++ [58]) (by simp only [List.length_append, List.length_cons, List.length_nil]; omega) (hjm.mono ((hl5).trans (hl6.trans hl7)))) [0, 7] rfl rfl ⟨rfl, rfl, trivial⟩ ?_⟩
     rintro e H7 G' hle8 ⟨rfl, hl8, rfl⟩
     (conv => whnf)
     rw [hwi]
     refine ⟨List.length ms - ((i + 1) + 1), by omega, _, [bB true (.self 3), .dead, .dead, rB (bs ++ [123] ++ wrMs true (ms.take (i + 1)) ++ [44] ++ quoteB s0.data.toList ++ [58] ++ wrJ j0)], [0, 1, 2, 8], ⟨(i + 1) + 1, by omega, rfl, rfl, hle4.trans ((hl5).trans (hl6.trans (hl7.trans hl8))), ?_⟩, ?_⟩
     ·rw [htk]
      show [_, _, _, rB _] = [_, _, _, rB _]
      congr 4
      simp [List.append_assoc]
     ·exact ⟨rfl, ⟨rfl, trivial, trivial, rfl, trivial⟩, rfl, rfl, rfl, rfl, trivial⟩
   ·have h7 := of_decide_eq_false h7
    obtain rfl : i = (List.length ms) := by omega
    rw [List.take_of_length_le (Nat.le_refl _)]
    refine ⟨⟨_, Tryz.func239, rfl, by kernel_rfl⟩, CallS.use (writeByte true (bs ++ [123] ++ wrMs true ms) 125 125 rfl (by simp only [List.length_append, List.length_cons, List.length_nil]; omega) H3) [0, 3] rfl rfl ⟨rfl, rfl, trivial⟩ ?_⟩
    rintro e H4 G' hle5 ⟨rfl, hl5, rfl⟩
    (conv => whnf)
    exact leaf4 _ .dead .dead _ _ _ hk (by omega) rfl ((hl2.trans hle4).trans hl5) (by rw [List.append_assoc, List.append_assoc, List.append_assoc]; rfl)
  simp only [beq_eq_false_iff_ne, ne_eq] at h6
  rw [if_neg h1, if_neg h2, if_neg h3, if_neg h4, if_neg h5, if_neg h6] at hr2
  cases hr2
theorem write_ : ∀ (N : Nat) (j : J), SizeOf.sizeOf j < N → rightJ j = true → WSays j
 | 0, j, h, _ => by omega
 | N + 1, .mk k y t js ms, h, hr => by
  intro w bs hn k' y' t' A n c B m d H hj
  obtain ⟨rfl, rfl, rfl⟩ : k' = k ∧ y' = y ∧ t' = t := by cases hj; exact ⟨rfl, rfl, rfl⟩
  have hr2 := hr
  unfold rightJ at hr2
  rw [Bool.and_eq_true] at hr2
  have hkind : (k' = 5 → rightJs js = true) ∧ (k' = 6 → rightMs ms = true) ∧ (k' ≠ 5 → js = []) ∧ (k' ≠ 6 → ms = []) := by
   obtain ⟨hb, hk⟩ := hr2
   simp only [bareJ, Bool.and_eq_true, Bool.or_eq_true, beq_iff_eq] at hb
   refine ⟨fun h5 => ?_, fun h6 => ?_, fun h5 => ?_, fun h6 => ?_⟩
   ·subst h5; simpa using hk
   ·subst h6
    have : rightMs ms && noTwice (ms.map (·.1)) = true := by simpa using hk
    simp only [Bool.and_eq_true] at this
    exact this.1
   ·rcases hb.1.2 with h | h
    ·exact absurd h h5
    ·exact List.eq_nil_of_length_eq_zero h
   ·rcases hb.2 with h | h
    ·exact absurd h h6
    ·exact List.eq_nil_of_length_eq_zero h
  have hjs : ∀ (i : Nat) (j : J), js[i]? = some j → WSays j := fun i j hi => by
   by_cases h5 : k' = 5
   ·refine write_ N j ?_ (rightJs_get (hkind.1 h5) hi)
    have := List.sizeOf_lt_of_mem (List.mem_of_getElem? hi)
    simp only [J.mk.sizeOf_spec] at h
    omega
   ·rw [hkind.2.2.1 h5] at hi; simp at hi
  have hms : ∀ (i : Nat) (s : ByteArray) (j : J), ms[i]? = some (s, j) → WSays j := fun i s j hi => by
   by_cases h6 : k' = 6
   ·refine write_ N j ?_ (rightMs_get (hkind.2.1 h6) hi).1
    have := List.sizeOf_lt_of_mem (List.mem_of_getElem? hi)
    simp only [J.mk.sizeOf_spec] at h
    simp only [Prod.mk.sizeOf_spec] at this
    omega
   ·rw [hkind.2.2.2 h6] at hi; simp at hi
  refine CallO.sub (write0 w bs k' y' t' js ms hr hjs hms hn A n c B m d H hj) ?_
  rintro e H' G' hle ⟨rfl, hl, hG⟩
  rcases hG with ⟨_, _, x, rfl⟩ | ⟨_, x1, x2, rfl⟩
  ·exact ⟨.tu [], [bB true (.self 2), .dead, rB (bs ++ wrJ (.mk k' y' t' js ms))], [0, 1, 3], rfl, ⟨rfl, trivial, rfl, trivial⟩, rfl, rfl, hl, rfl⟩
  ·exact ⟨.tu [], [bB true (.self 2), .dead, rB (bs ++ wrJ (.mk k' y' t' js ms))], [0, 1, 4], rfl, ⟨rfl, trivial, rfl, trivial⟩, rfl, rfl, hl, rfl⟩
end Go.Kx.Wr
namespace Go.Proofs
open Go.Shelf
def Tryz.laysSort_ren : Go.Shelf.Ren := ⟨fun | 190 => 298 | 125 => 292 | 258 => 344 | 128 => 337 | 129 => 316 | 302 => 369 | 303 => 370 | 304 => 371 | 305 => 372 | 306 => 373 | 307 => 374 | 308 => 375 | 309 => 376 | 310 => 377 | 333 => 393 | 329 => 361 | 330 => 362 | 334 => 394 | 335 => 395 | 336 => 396 | 344 => 400 | n => n, fun | 31 => 22 | 9 => 9 | 3 => 3 | 46 => 284 | 0 => 0 | 51 => 279 | 53 => 304 | 4 => 4 | 183 => 397 | 182 => 396 | 131 => 39 | 5 => 5 | 218 => 414 | 222 => 418 | 228 => 437 | 229 => 438 | n => n, fun | n => n⟩
theorem Tryz.laysSort : Go.Proofs.Lays.n190 Tryz.prog Tryz.laysSort_ren where
 mixed := by kernel_rfl
 f125 := Tryz.func292.trans (congrArg some (by kernel_rfl))
 f128 := Tryz.func337.trans (congrArg some (by kernel_rfl))
 f129 := Tryz.func316.trans (congrArg some (by kernel_rfl))
 f190 := Tryz.func298.trans (congrArg some (by kernel_rfl))
 f258 := Tryz.func344.trans (congrArg some (by kernel_rfl))
 f302 := Tryz.func369.trans (congrArg some (by kernel_rfl))
 f303 := Tryz.func370.trans (congrArg some (by kernel_rfl))
 f304 := Tryz.func371.trans (congrArg some (by kernel_rfl))
 f305 := Tryz.func372.trans (congrArg some (by kernel_rfl))
 f306 := Tryz.func373.trans (congrArg some (by kernel_rfl))
 f307 := Tryz.func374.trans (congrArg some (by kernel_rfl))
 f308 := Tryz.func375.trans (congrArg some (by kernel_rfl))
 f309 := Tryz.func376.trans (congrArg some (by kernel_rfl))
 f310 := Tryz.func377.trans (congrArg some (by kernel_rfl))
 f329 := Tryz.func361.trans (congrArg some (by kernel_rfl))
 f330 := Tryz.func362.trans (congrArg some (by kernel_rfl))
 f333 := Tryz.func393.trans (congrArg some (by kernel_rfl))
 f334 := Tryz.func394.trans (congrArg some (by kernel_rfl))
 f335 := Tryz.func395.trans (congrArg some (by kernel_rfl))
 f336 := Tryz.func396.trans (congrArg some (by kernel_rfl))
 f344 := Tryz.func400.trans (congrArg some (by kernel_rfl))
 t0 := Tryz.underlying0
 a0 := Tryz.isAgg0
 z0 := Tryz.sizeOf0
 v0 := Tryz.zeroValue0
 t3 := Tryz.underlying3
 a3 := Tryz.isAgg3
 z3 := Tryz.sizeOf3
 v3 := Tryz.zeroValue3
 t4 := Tryz.underlying4
 a4 := Tryz.isAgg4
 z4 := Tryz.sizeOf4
 v4 := Tryz.zeroValue4
 t5 := Tryz.underlying5
 a5 := Tryz.isAgg5
 z5 := Tryz.sizeOf5
 v5 := Tryz.zeroValue5
 t9 := Tryz.underlying9
 a9 := Tryz.isAgg9
 z9 := Tryz.sizeOf9
 v9 := Tryz.zeroValue9
 t31 := Tryz.underlying22
 a31 := Tryz.isAgg22
 z31 := Tryz.sizeOf22
 v31 := Tryz.zeroValue22
 t46 := Tryz.underlying284
 a46 := Tryz.isAgg284
 z46 := Tryz.sizeOf284
 v46 := Tryz.zeroValue284
 t51 := Tryz.underlying279
 a51 := Tryz.isAgg279
 z51 := Tryz.sizeOf279
 v51 := Tryz.zeroValue279
 t53 := Tryz.underlying304
 a53 := Tryz.isAgg304
 z53 := Tryz.sizeOf304
 v53 := Tryz.zeroValue304
 t131 := Tryz.underlying39
 a131 := Tryz.isAgg39
 z131 := Tryz.sizeOf39
 v131 := Tryz.zeroValue39
 t182 := Tryz.underlying396
 a182 := Tryz.isAgg396
 z182 := Tryz.sizeOf396
 v182 := Tryz.zeroValue396
 t183 := Tryz.underlying397
 a183 := Tryz.isAgg397
 z183 := Tryz.sizeOf397
 v183 := Tryz.zeroValue397
 t218 := Tryz.underlying414
 a218 := Tryz.isAgg414
 z218 := Tryz.sizeOf414
 v218 := Tryz.zeroValue414
 t222 := Tryz.underlying418
 a222 := Tryz.isAgg418
 z222 := Tryz.sizeOf418
 v222 := Tryz.zeroValue418
 t228 := Tryz.underlying437
 a228 := Tryz.isAgg437
 z228 := Tryz.sizeOf437
 v228 := Tryz.zeroValue437
 t229 := Tryz.underlying438
 a229 := Tryz.isAgg438
 z229 := Tryz.sizeOf438
 v229 := Tryz.zeroValue438
def Tryz.laysCompact_ren : Go.Shelf.Ren := ⟨fun | 194 => 299 | n => n, fun | 31 => 22 | 9 => 9 | 3 => 3 | 4 => 4 | 0 => 0 | n => n, fun | n => n⟩
theorem Tryz.laysCompact : Go.Proofs.Lays.n194 Tryz.prog Tryz.laysCompact_ren where
 mixed := by kernel_rfl
 f194 := Tryz.func299.trans (congrArg some (by kernel_rfl))
 t0 := Tryz.underlying0
 a0 := Tryz.isAgg0
 z0 := Tryz.sizeOf0
 v0 := Tryz.zeroValue0
 t3 := Tryz.underlying3
 a3 := Tryz.isAgg3
 z3 := Tryz.sizeOf3
 v3 := Tryz.zeroValue3
 t4 := Tryz.underlying4
 a4 := Tryz.isAgg4
 z4 := Tryz.sizeOf4
 v4 := Tryz.zeroValue4
 t9 := Tryz.underlying9
 a9 := Tryz.isAgg9
 z9 := Tryz.sizeOf9
 v9 := Tryz.zeroValue9
 t31 := Tryz.underlying22
 a31 := Tryz.isAgg22
 z31 := Tryz.sizeOf22
 v31 := Tryz.zeroValue22

end Go.Proofs
namespace Go.Kx.So
open Go.Proofs Go.Kx Go.RowKit Go.Sort
set_option maxRecDepth 20000
def strs (l : List (List UInt8)) : List Value := l.map encStr
def sortL (l : List (List UInt8)) : List (List UInt8) := l.mergeSort fun x y => decide (x ≤ y)
theorem sortL_length (l : List (List UInt8)) : (sortL l).length = l.length := List.length_mergeSort l
theorem putCells_size {α : Type} [Inhabited α] (enc : α → Value) (off : Nat) (d : Array α) (c : Array Value) : (putCells enc off d c).size = c.size := by unfold putCells; simp
theorem take_put (l : List (List UInt8)) (off : Nat) (c : Array Value) (h : off + l.length ≤ c.size) : ((putCells encStr off l.toArray c).toList.drop off).take l.length = strs l := by
 apply List.ext_getElem?
 intro j
 rw [List.getElem?_take]
 split
 ·rename_i hj
  rw [List.getElem?_drop]
  unfold strs putCells
  rw [Array.getElem?_toList, Array.getElem?_mapIdx, Array.getElem?_eq_getElem (by omega)]
  simp only [Option.map_some, List.size_toArray]
  rw [if_pos (by omega), List.getElem?_map, List.getElem?_eq_getElem hj, show off + j - off = j by omega]
  simp [hj]
 ·rename_i hj
  unfold strs
  rw [List.getElem?_eq_none (by simp; omega)]
theorem block_put {w : World} {g : Nat} {cur : Array Value} {t : TypeId} (hg : w.heap[g]? = some (.cells cur t (0, 0))) (n o : Nat) (d : Array (List UInt8)) (os : Array Obj) :
  (grow (putRow encStr (Sort.ahead w n) g o d) os).heap[g]? = some (.cells (putCells encStr o d cur) t (0, 0)) ∧ (∀ b, b < w.heap.size → b ≠ g → (grow (putRow encStr (Sort.ahead w n) g o d) os).heap[b]? = w.heap[b]?) ∧ w.heap.size ≤ (grow (putRow encStr (Sort.ahead w n) g o d) os).heap.size := by
 have hlt := (Array.getElem?_eq_some_iff.1 hg).1
 have hsz : (putRow encStr (Sort.ahead w n) g o d).heap.size = w.heap.size := by simp [Sort.ahead]
 refine ⟨?_, fun b hb hne => ?_, ?_⟩
 ·unfold grow
  simp only
  rw [Array.getElem?_append_left (by omega)]
  unfold putRow mapBlock Sort.ahead
  simp [Array.getElem?_modify, hg, onCells]
 ·unfold grow
  simp only
  rw [Array.getElem?_append_left (by omega)]
  unfold putRow mapBlock Sort.ahead
  simp [Array.getElem?_modify, Ne.symm hne]
 ·unfold grow
  simp only [Array.size_append]
  omega
theorem holds_of {w : World} {g o : Nat} {cur : Array Value} {t : TypeId} {l : List (List UInt8)} (hg : w.heap[g]? = some (.cells cur t (0, 0))) (htk : (cur.toList.drop o).take l.length = strs l) : Holds encStr w g o l.toArray := by
 intro j hj
 have hj' : j < l.length := by simpa using hj
 have h1 : (strs l)[j]? = some (encStr l[j]) := by unfold strs; simp [hj']
 rw [← htk, List.getElem?_take, if_pos hj', List.getElem?_drop] at h1
 refine ⟨?_, by simp [World.frozen?, hg]⟩
 have h2 : cur[o + j]? = some (encStr l[j]) := by simpa using h1
 simp only [World.cell?, hg]
 simp [h2, hj']
theorem sort_ (l : List (List UInt8)) (hn : l.length < 4611686018427387904) (h0 : 0 < l.length) (H : Hp) : CallO Tryz.prog 298 [.si (.ce (.self 0))] H [.row 9 1 l.length (strs l)] fun e H' G' => e = .ret (.tu []) ∧ H' = H ∧ G' = [.row 9 1 l.length (strs (sortL l))] := by
 refine (CallO.of_calls_turn (P := Tryz.prog) (t := 9) (n := l.length) (xs := strs l) (ys := strs (sortL l)) (R := fun v => v = .tuple #[]) h0 fun w g o cap cur _ _ hg hnc hcs htk => ?_).mono ?_
 ·refine (Any.slices_Sort_string Tryz.laysSort g o cap l w (holds_of hg htk) (Array.getElem?_eq_some_iff.1 hg).1 hn).mono fun e w' ⟨he, n, os, hw⟩ => ?_
  subst he hw
  obtain ⟨b1, b2, b3⟩ := block_put hg n o (sortL l).toArray os
  refine ⟨_, _, rfl, rfl, rfl, rfl, rfl, b3, b2, b1, putCells_size _ _ _ _, ?_, ?_⟩
  ·have := take_put (sortL l) o cur (by rw [sortL_length]; omega)
   rwa [sortL_length] at this
  ·unfold strs; rw [List.length_map, sortL_length]
 ·rintro e H' G' hle ⟨v, rfl, rfl, rfl, rfl⟩
  exact ⟨rfl, rfl, rfl⟩
theorem of_calls_cut {P : Program} {f : FuncId} {H : Hp} {t : TypeId} {n m : Nat} {xs : List Value} (hn : 0 < n)
  (h : ∀ (w : World) (g o cap : Nat) (cur : Array Value), w.heap[g]? = some (.cells cur t (0, 0)) → n ≤ cap → o + cap ≤ cur.size → (cur.toList.drop o).take n = xs →
   Calls P f #[.slice (some ⟨g, o, none⟩) n cap] w fun e w' => ∃ A c, e = .returned (.slice A m c) ∧ w'.os = w.os ∧ w'.tape = w.tape ∧ w'.output = w.output ∧ w.heap.size ≤ w'.heap.size ∧ (∀ b, b < w.heap.size → b ≠ g → w'.heap[b]? = w.heap[b]?)) :
  CallO P f [.si (.ce (.self 0))] H [.row t 1 n xs] fun e H' G' => (∃ A c, e = .ret (pv (.slice A m c))) ∧ H' = H ∧ G' = [.dead] := by
 intro w0 M hgd H0 ρ w vs hs hv
 obtain ⟨v0, rfl, hv0⟩ : ∃ v0, vs = [v0] ∧ ρ[0]? = some v0 := by
  cases hv with | cons h1 h2 => cases h2; exact ⟨_, rfl, h1⟩
 have hrow := hs.ok 0 _ _ rfl hv0
 rcases hrow.2 with ⟨_, h0⟩ | ⟨g, o, cap, cur, rfl, hg, hnc, hcm, hcs, htk⟩
 ·omega
 rw [Nat.mul_one] at hcs htk
 refine (h w g o cap cur hg hnc hcs htk).mono fun e w' he => ?_
 obtain ⟨A, c, rfl, e1, e2, e3, e4, e5⟩ := he
 exact ⟨pv (.slice A m c), ρ, H, _, hs.turn (k := 0) (s' := .dead) rfl hv0 (g := g) rfl e1 e2 e3 e4 e5 trivial (.inr rfl), .refl _, rfl, .refl _, ⟨A, c, rfl⟩, rfl, rfl⟩
theorem compact_ (l : List (List UInt8)) (hn : l.length < 4611686018427387904) (h0 : 0 < l.length) (H : Hp) : CallO Tryz.prog 299 [.si (.ce (.self 0))] H [.row 9 1 l.length (strs l)] fun e H' G' => (∃ A c, e = .ret (pv (.slice A (Lib.compact l).length c))) ∧ H' = H ∧ G' = [.dead] := by
 refine of_calls_cut h0 fun w g o cap cur hg hnc hcs htk => ?_
 refine (Any.slices_Compact_string Tryz.laysCompact g o cap l w (holds_of hg htk) (by omega) hnc).mono fun e w' ⟨he, q, hw⟩ => ?_
 subst he hw
 have hlt := (Array.getElem?_eq_some_iff.1 hg).1
 refine ⟨some ⟨g, o, none⟩, cap, rfl, rfl, rfl, rfl, by simp [Sort.ahead], fun b hb hne => ?_⟩
 unfold putRow mapBlock Sort.ahead
 simp [Array.getElem?_modify, Ne.symm hne]
end Go.Kx.So
namespace Go.Kx.Js
open Go.Proofs Go.Kx Go.RowKit
set_option maxRecDepth 20000
def RJ : Hp → J → SV → Prop := fun H j sv => ∃ k y t A n c B m e, sv = agJ k y t A n c B m e ∧ JAt H j [.int .i64 k, .bool y, .string t, .slice A n c, .slice B m e]
def VSays (s : ByteArray) (d o : Int) (val : List UInt8 → Res J) : Prop := ∀ (l : List UInt8), Sfx l (tL s) → ∀ H : Hp, CallO Tryz.prog 327 [me] H [rdB s l d o] fun e H' G' => Out s d o RJ (val l) e H' G'
theorem VSays.use {s : ByteArray} {d o : Int} {val : List UInt8 → Res J} (h : VSays s d o val) (l : List UInt8) (hl : Sfx l (tL s)) (H : Hp) : CallO Tryz.prog 327 [me] H [rdB s l d o] fun e H' G' => Out s d o RJ (val l) e H' G' := h l hl H
def rB : SB := .box 358 [.ptr 0 0]
def vA (c : SC) : SB := .box 114 [.val (.int .i64 5), .val (.bool false), .val (.string ⟨#[]⟩), c, .val (.slice none 0 0)]
def vO (c : SC) : SB := .box 114 [.val (.int .i64 6), .val (.bool false), .val (.string ⟨#[]⟩), .val (.slice none 0 0), c]
def rowA (js : List J) (xs : List Value) : SB := .row 114 5 js.length xs
def zero5 : List Value := [.int .i64 0, .bool false, .string ⟨#[]⟩, .slice none 0 0, .slice none 0 0]
theorem ones_zero5 : ∀ u ∈ zero5, u.oneCell' = true := by
  intro u hu
  unfold zero5 at hu
  simp only [List.mem_cons, List.not_mem_nil, or_false] at hu
  rcases hu with rfl | rfl | rfl | rfl | rfl <;> rfl
def OutA (s : ByteArray) (d o : Int) (js : List J) (xs : List Value) (res : Res J) (e : SE) (H' : Hp) (G' : List SB) : Prop :=
  match res with
  | .ok j r => Sfx r (tL s) ∧ e = .ret (.tu []) ∧ ∃ xs', JsAt H' (js ++ [j]) xs' ∧ G' = [rdB s r d o, rB, vA (.self 4), .dead, rowA (js ++ [j]) xs']
  | .no er r => e = .pan [{ v := faultV er (pos s r), recovered := false }] ∧ ∃ l' o', G' = [rdB s l' d o', rB, vA (.self 3), rowA js xs]
theorem splice_end {xs zs ys : List Value} {off : Nat} (h : off = xs.length) (h2 : zs.length = ys.length) : splice (xs ++ zs) off ys = xs ++ ys := by
  subst h
  unfold splice
  rw [List.take_append_of_le_length (Nat.le_refl _), List.take_length, List.drop_of_length_le (by rw [List.length_append]; omega), List.append_nil]
theorem leafA {s : ByteArray} {r : List UInt8} {d o : Int} {js : List J} {j : J} {xs cs : List Value} {H : Hp} (hx : JsAt H js xs) (hj : JAt H j cs) : ∃ xs', JsAt H (js ++ [j]) xs' ∧
    [SB.box 360 [.val (.string s), .val (.int .i64 ((pos s r : Nat) : Int)), .val (.int .i64 d), .val (.int .i64 o)], rB, .box 114 [.val (.int .i64 5), .val (.bool false), .val (.string ⟨#[]⟩), .self 4, .val (.slice none 0 0)], .dead, .row 114 5 (js.length + 1) (splice (xs ++ zero5) ((js.length : Int).toNat * 5) cs)] = [rdB s r d o, rB, vA (.self 4), .dead, rowA (js ++ [j]) xs'] := by
  refine ⟨_, hx.snoc hj, ?_⟩
  rw [splice_end (xs := xs) (zs := zero5) (ys := cs) (by rw [hx.length]; omega) (show zero5.length = cs.length from hj.length.symm)]
  unfold rowA
  rw [List.length_append]
  rfl
set_option maxHeartbeats 8000000 in
theorem elA_ (s : ByteArray) (d o : Int) (val : List UInt8 → Res J) (hv : VSays s d o val) (l : List UInt8) (hl : Sfx l (tL s)) (js : List J) (xs : List Value) (hn : js.length ≤ 200000) (H : Hp) (hx : JsAt H js xs) :
    CallO Tryz.prog 387 [.si (.ce (.ptr 2 0)), .si (.ce (.ptr 1 0))] H [rdB s l d o, rB, vA (.self 3), rowA js xs] fun e H' G' => OutA s d o js xs (val l) e H' G' := by
  refine CallO.of_body tab Tryz.func387 rfl (nt := Tryz.f387.ntmps) rfl (by kernel_rfl) ?_
  (conv => whnf)
  refine WS.draw tab mixed (.take 0 (.take 2 (.alt 1 (.alt 3 (.alt 4 (.alt 5 (.alt 6 (.take 9 (.alt 7 (.alt 8 (.alt 10 .done .no) (.alt 10 (.alt 8 .done .no) .no)) (.alt 10 (.alt 7 (.alt 8 .done .no) .no) .no))) .no) .no) (.alt 5 (.alt 4 (.alt 6 (.take 9 (.alt 7 (.alt 8 (.alt 10 .done .no) (.alt 10 (.alt 8 .done .no) .no)) (.alt 10 (.alt 7 (.alt 8 .done .no) .no) .no))) .no) .no) .no)) (.alt 4 (.alt 3 (.alt 5 (.alt 6 (.take 9 (.alt 7 (.alt 8 (.alt 10 .done .no) (.alt 10 (.alt 8 .done .no) .no)) (.alt 10 (.alt 7 (.alt 8 .done .no) .no) .no))) .no) .no) (.alt 5 (.alt 3 (.alt 6 (.take 9 (.alt 7 (.alt 8 (.alt 10 .done .no) (.alt 10 (.alt 8 .done .no) .no)) (.alt 10 (.alt 7 (.alt 8 .done .no) .no) .no))) .no) .no) .no)) (.alt 5 (.alt 3 (.alt 4 (.alt 6 (.take 9 (.alt 7 (.alt 8 (.alt 10 .done .no) (.alt 10 (.alt 8 .done .no) .no)) (.alt 10 (.alt 7 (.alt 8 .done .no) .no) .no))) .no) .no) (.alt 4 (.alt 3 (.alt 6 (.take 9 (.alt 7 (.alt 8 (.alt 10 .done .no) (.alt 10 (.alt 8 .done .no) .no)) (.alt 10 (.alt 7 (.alt 8 .done .no) .no) .no))) .no) .no) .no)) .no))) (.alt 3 (.alt 1 (.alt 4 (.alt 5 (.alt 6 (.take 9 (.alt 7 (.alt 8 (.alt 10 .done .no) (.alt 10 (.alt 8 .done .no) .no)) (.alt 10 (.alt 7 (.alt 8 .done .no) .no) .no))) .no) .no) (.alt 5 (.alt 4 (.alt 6 (.take 9 (.alt 7 (.alt 8 (.alt 10 .done .no) (.alt 10 (.alt 8 .done .no) .no)) (.alt 10 (.alt 7 (.alt 8 .done .no) .no) .no))) .no) .no) .no)) (.alt 5 (.alt 1 (.alt 4 (.alt 6 (.take 9 (.alt 7 (.alt 8 (.alt 10 .done .no) (.alt 10 (.alt 8 .done .no) .no)) (.alt 10 (.alt 7 (.alt 8 .done .no) .no) .no))) .no) .no) .no) .no)) (.alt 5 (.alt 1 (.alt 3 (.alt 4 (.alt 6 (.take 9 (.alt 7 (.alt 8 (.alt 10 .done .no) (.alt 10 (.alt 8 .done .no) .no)) (.alt 10 (.alt 7 (.alt 8 .done .no) .no) .no))) .no) .no) (.alt 4 (.alt 3 (.alt 6 (.take 9 (.alt 7 (.alt 8 (.alt 10 .done .no) (.alt 10 (.alt 8 .done .no) .no)) (.alt 10 (.alt 7 (.alt 8 .done .no) .no) .no))) .no) .no) .no)) (.alt 3 (.alt 1 (.alt 4 (.alt 6 (.take 9 (.alt 7 (.alt 8 (.alt 10 .done .no) (.alt 10 (.alt 8 .done .no) .no)) (.alt 10 (.alt 7 (.alt 8 .done .no) .no) .no))) .no) .no) .no) .no)) .no))))) (by kernel_rfl) [0, 2, 3] ?_
  (conv => whnf)
  repeat' (first
    | exact trivial
    | exact rfl
    | exact ⟨_, Tryz.func327, rfl, by kernel_rfl⟩
    | (refine CallS.use (hv.use l hl _) [0] rfl rfl ⟨rfl, trivial⟩ ?_; intro e H2 G' hle2 hout; replace hx := hx.mono hle2; cases hval : val l)
    | (rw [hval] at hout; obtain ⟨rfl, l2, o2, rfl⟩ := hout; (conv => whnf); exact ⟨rfl, l2, o2, rfl⟩)
    | (rw [hval] at hout; obtain ⟨hr, ⟨sv, rfl, k, y, t, A, n, c, B, m, e, rfl, hj⟩, rfl⟩ := hout; clear hval; (conv => whnf))
    | (refine ⟨by decide, .inl ?_⟩; intro g H2 hle hrd; replace hx := hx.mono hle; try replace hj := hj.mono hle
       (conv => whnf))
    | (refine ⟨zero5, rfl, hrd, ones_zero5, ?_⟩; (conv => whnf); refine ⟨by show _ * 81 ≤ _; omega, ?_⟩; (conv => whnf))
    | (refine ⟨zero5, rfl, hrd.mono hle2, ones_zero5, ?_⟩; (conv => whnf); refine ⟨by show _ * 81 ≤ _; omega, ?_⟩; (conv => whnf))
    | (refine ⟨⟨by omega, by omega⟩, ?_⟩; (conv => whnf))
    | exact hr
    | (show (js.length : Int).toNat * 5 + 5 ≤ (xs ++ zero5).length; rw [List.length_append, hx.length]; show _ ≤ _ * 5 + 5; omega)
    | exact leafA hx hj
    | (refine And.intro ?_ ?_ <;> (conv => whnf)))
end Go.Kx.Js
namespace Go.Kx.Js
open Go.Proofs Go.Kx Go.RowKit
set_option maxRecDepth 20000
def zero6 : List Value := [.string ⟨#[]⟩, .int .i64 0, .bool false, .string ⟨#[]⟩, .slice none 0 0, .slice none 0 0]
theorem ones_zero6 : ∀ u ∈ zero6, u.oneCell' = true := by
  intro u hu
  unfold zero6 at hu
  simp only [List.mem_cons, List.not_mem_nil, or_false] at hu
  rcases hu with rfl | rfl | rfl | rfl | rfl | rfl <;> rfl
def OutM (s : ByteArray) (d o : Int) (ms : Ms) (xs : List Value) (res : Res Ms) (e : SE) (H' : Hp) (G' : List SB) : Prop :=
  match res with
  | .ok ms' r => Sfx r (tL s) ∧ e = .ret (.tu []) ∧ ∃ xs', MsAt H' ms' xs' ∧ G' = [rdB s r d o, vO (.self 3), .dead, rowO ms' xs']
  | .no er r => e = .pan [{ v := faultV er (pos s r), recovered := false }] ∧ ∃ l' o', G' = [rdB s l' d o', vO (.self 2), rowO ms xs]
def OutM4 (s : ByteArray) (d o : Int) (ms : Ms) (xs : List Value) (res : Res Ms) (e : SE) (H' : Hp) (G' : List SB) : Prop :=
  match res with
  | .ok ms' r => Sfx r (tL s) ∧ e = .ret (.tu []) ∧ ∃ xs' b, MsAt H' ms' xs' ∧ G' = [rdB s r d o, vO (.self 4), .dead, b, rowO ms' xs']
  | .no er r => e = .pan [{ v := faultV er (pos s r), recovered := false }] ∧ ∃ l' o', G' = [rdB s l' d o', vO (.self 2), rowO ms xs]
theorem leafM {s : ByteArray} {r : List UInt8} {d o : Int} {ms : Ms} {t : ByteArray} {j : J} {xs cs : List Value} {H : Hp} {b : SB} (hx : MsAt H ms xs) (hj : JAt H j cs) : ∃ xs' b', MsAt H (ms ++ [(t, j)]) xs' ∧
    [SB.box 360 [.val (.string s), .val (.int .i64 ((pos s r : Nat) : Int)), .val (.int .i64 d), .val (.int .i64 o)], .box 114 [.val (.int .i64 6), .val (.bool false), .val (.string ⟨#[]⟩), .val (.slice none 0 0), .self 4], .dead, b, .row 313 6 (ms.length + 1) (splice (xs ++ zero6) ((ms.length : Int).toNat * 6) (.string t :: cs))] = [rdB s r d o, vO (.self 4), .dead, b', rowO (ms ++ [(t, j)]) xs'] := by
  refine ⟨_, b, hx.snoc hj, ?_⟩
  rw [splice_end (xs := xs) (zs := zero6) (ys := .string t :: cs) (by rw [hx.length]; omega) (show zero6.length = (Value.string t :: cs).length by rw [List.length_cons, hj.length]; rfl)]
  unfold rowO
  rw [List.length_append]
  rfl
set_option maxHeartbeats 8000000 in
theorem member4 (s : ByteArray) (hs : s.size ≤ 200000) (d o : Int) (val : List UInt8 → Res J) (hv : VSays s d o val) (l : List UInt8) (hl : Sfx l (tL s)) (ms : Ms) (xs : List Value) (hn : List.length ms ≤ 200000) (H : Hp) (hx : MsAt H ms xs) :
    CallO Tryz.prog 389 [me, .si (.ce (.ptr 1 0))] H [rdB s l d o, vO (.self 2), rowO ms xs] fun e H' G' => OutM4 s d o ms xs (memP val ms l) e H' G' := by
  refine CallO.of_body tab Tryz.func389 rfl (nt := Tryz.f389.ntmps) rfl (by kernel_rfl) ?_
  (conv => whnf)
  refine ⟨⟨_, Tryz.func355, rfl, by kernel_rfl⟩, CallS.use (text_ s l hl hs d o H) [0] rfl rfl ⟨rfl, trivial⟩ ?_⟩
  intro e H2 G' hle2 hout
  replace hx := hx.mono hle2
  unfold memP
  cases htx : textP l with
  | no er r =>
    rw [htx] at hout
    obtain ⟨rfl, l2, o2, rfl⟩ := hout
    (conv => whnf)
    exact ⟨rfl, l2, o2, rfl⟩
  | ok t l1 =>
    rw [htx] at hout
    obtain ⟨hl1, ⟨sv, rfl, rfl⟩, rfl⟩ := hout
    (conv => whnf)
    refine ⟨⟨_, Tryz.func381, rfl, by kernel_rfl⟩, CallS.use (getOwn ms xs t (by omega) H2 hx) [2] rfl rfl ⟨rfl, trivial⟩ ?_⟩
    rintro e H3 G' hle3 ⟨rfl, ⟨k0, y0, t0, A0, n0, c0, B0, m0, f0, rfl⟩, rfl⟩
    have hmem : ∀ (x : SE) (H' : Hp) (G' : List SB), OutM4 s d o ms xs (match getP ms t with | some _ => .no 15 l | none => (mustP 58 (blankP l1)).bind fun _ l2 => (val (blankP l2)).bind fun j l3 => .ok (ms ++ [(t, j)]) l3) x H' G' → OutM4 s d o ms xs ((Res.ok t l1).bind fun s l1 => match getP ms s with | some _ => .no 15 l | none => (mustP 58 (blankP l1)).bind fun _ l2 => (val (blankP l2)).bind fun j l3 => .ok (ms ++ [(s, j)]) l3) x H' G' := fun _ _ _ h => h
    cases hg : getP ms t with
    | some j0 =>
      rw [hg] at hmem
      (conv => whnf)
      refine ⟨⟨_, Tryz.func359, rfl, by kernel_rfl⟩, CallS.use (fail_ 15 (pos s l : Nat) s l1 d o _) [0] rfl rfl ⟨rfl, trivial⟩ ?_⟩
      rintro e H2 G' hle2 ⟨rfl, rfl, rfl⟩
      (conv => whnf)
      exact hmem _ _ _ ⟨rfl, l1, o, rfl⟩
    | none =>
      rw [hg] at hmem
      (conv => whnf)
      refine ⟨⟨_, Tryz.func326, rfl, by kernel_rfl⟩, CallS.use (blank_ s l1 hl1 (by omega) d o _) [0] rfl rfl ⟨rfl, trivial⟩ ?_⟩
      rintro e H4 G' hle4 ⟨rfl, rfl, rfl⟩
      (conv => whnf)
      have hl2 := (blankP_sfx l1).trans hl1
      refine ⟨⟨_, Tryz.func383, rfl, by kernel_rfl⟩, CallS.use (must_ 58 (by decide) s _ hl2 (by omega) d o _) [0] rfl rfl ⟨rfl, trivial⟩ ?_⟩
      rintro e H5 G' hle5 ⟨rfl, hout⟩
      cases hm : mustP 58 (blankP l1) with
      | no er r =>
        rw [hm] at hout hmem
        obtain ⟨rfl, l2, o2, rfl⟩ := hout
        (conv => whnf)
        exact hmem _ _ _ ⟨rfl, l2, o2, rfl⟩
      | ok u l2 =>
        rw [hm] at hout hmem
        obtain ⟨hl3, ⟨sv, rfl, rfl⟩, rfl⟩ := hout
        (conv => whnf)
        refine ⟨⟨_, Tryz.func326, rfl, by kernel_rfl⟩, CallS.use (blank_ s l2 hl3 (by omega) d o _) [0] rfl rfl ⟨rfl, trivial⟩ ?_⟩
        rintro e H6 G' hle6 ⟨rfl, rfl, rfl⟩
        (conv => whnf)
        have hl4 := (blankP_sfx l2).trans hl3
        replace hmem : ∀ (x : SE) (H' : Hp) (G' : List SB), OutM4 s d o ms xs ((val (blankP l2)).bind fun j l3 => .ok (ms ++ [(t, j)]) l3) x H' G' → _ := hmem
        generalize blankP l2 = l4 at *
        refine WS.draw tab mixed (.take 0 (.take 1 (.take 2 (.take 4 (.take 5 (.alt 3 (.alt 6 (.take 7 (.alt 8 (.alt 9 (.alt 10 (.take 13 (.take 14 (.alt 11 (.alt 12 (.alt 15 .done .no) (.alt 15 (.alt 12 .done .no) .no)) (.alt 15 (.alt 11 (.alt 12 .done .no) .no) .no)))) .no) .no) (.alt 9 (.alt 8 (.alt 10 (.take 13 (.take 14 (.alt 11 (.alt 12 (.alt 15 .done .no) (.alt 15 (.alt 12 .done .no) .no)) (.alt 15 (.alt 11 (.alt 12 .done .no) .no) .no)))) .no) .no) .no))) (.alt 8 (.alt 6 (.take 7 (.alt 9 (.alt 10 (.take 13 (.take 14 (.alt 11 (.alt 12 (.alt 15 .done .no) (.alt 15 (.alt 12 .done .no) .no)) (.alt 15 (.alt 11 (.alt 12 .done .no) .no) .no)))) .no) .no)) (.alt 9 (.alt 6 (.take 7 (.alt 10 (.take 13 (.take 14 (.alt 11 (.alt 12 (.alt 15 .done .no) (.alt 15 (.alt 12 .done .no) .no)) (.alt 15 (.alt 11 (.alt 12 .done .no) .no) .no)))) .no)) .no) .no)) (.alt 9 (.alt 6 (.take 7 (.alt 8 (.alt 10 (.take 13 (.take 14 (.alt 11 (.alt 12 (.alt 15 .done .no) (.alt 15 (.alt 12 .done .no) .no)) (.alt 15 (.alt 11 (.alt 12 .done .no) .no) .no)))) .no) .no)) (.alt 8 (.alt 6 (.take 7 (.alt 10 (.take 13 (.take 14 (.alt 11 (.alt 12 (.alt 15 .done .no) (.alt 15 (.alt 12 .done .no) .no)) (.alt 15 (.alt 11 (.alt 12 .done .no) .no) .no)))) .no)) .no) .no)) .no))) (.alt 6 (.take 7 (.alt 3 (.alt 8 (.alt 9 (.alt 10 (.take 13 (.take 14 (.alt 11 (.alt 12 (.alt 15 .done .no) (.alt 15 (.alt 12 .done .no) .no)) (.alt 15 (.alt 11 (.alt 12 .done .no) .no) .no)))) .no) .no) (.alt 9 (.alt 8 (.alt 10 (.take 13 (.take 14 (.alt 11 (.alt 12 (.alt 15 .done .no) (.alt 15 (.alt 12 .done .no) .no)) (.alt 15 (.alt 11 (.alt 12 .done .no) .no) .no)))) .no) .no) .no)) (.alt 9 (.alt 3 (.alt 8 (.alt 10 (.take 13 (.take 14 (.alt 11 (.alt 12 (.alt 15 .done .no) (.alt 15 (.alt 12 .done .no) .no)) (.alt 15 (.alt 11 (.alt 12 .done .no) .no) .no)))) .no) .no) .no) .no))) (.alt 9 (.alt 3 (.alt 6 (.take 7 (.alt 8 (.alt 10 (.take 13 (.take 14 (.alt 11 (.alt 12 (.alt 15 .done .no) (.alt 15 (.alt 12 .done .no) .no)) (.alt 15 (.alt 11 (.alt 12 .done .no) .no) .no)))) .no) .no)) (.alt 8 (.alt 6 (.take 7 (.alt 10 (.take 13 (.take 14 (.alt 11 (.alt 12 (.alt 15 .done .no) (.alt 15 (.alt 12 .done .no) .no)) (.alt 15 (.alt 11 (.alt 12 .done .no) .no) .no)))) .no)) .no) .no)) (.alt 6 (.take 7 (.alt 3 (.alt 8 (.alt 10 (.take 13 (.take 14 (.alt 11 (.alt 12 (.alt 15 .done .no) (.alt 15 (.alt 12 .done .no) .no)) (.alt 15 (.alt 11 (.alt 12 .done .no) .no) .no)))) .no) .no) .no)) .no)) .no)))))))) (by kernel_rfl) [0, 1, 2] ?_
        (conv => whnf)
        repeat' (first
          | exact trivial
          | exact rfl
          | exact ⟨_, Tryz.func327, rfl, by kernel_rfl⟩
          | (refine CallS.use (hv.use l4 hl4 _) [0] rfl rfl ⟨rfl, trivial⟩ ?_; intro e H2 G' hle2 hout; replace hx := hx.mono hle2; cases hval : val l4)
          | (rw [hval] at hout hmem; obtain ⟨rfl, l2, o2, rfl⟩ := hout; (conv => whnf); exact hmem _ _ _ ⟨rfl, l2, o2, rfl⟩)
          | (rw [hval] at hout hmem; obtain ⟨hr, ⟨sv, rfl, k, y, t, A, n, c, B, m, e, rfl, hj⟩, rfl⟩ := hout; clear hval; (conv => whnf))
          | (refine ⟨by decide, .inl ?_⟩; intro g H2 hle hrd; replace hx := hx.mono hle; try replace hj := hj.mono hle
             (conv => whnf))
          | (refine ⟨zero6, rfl, hrd, ones_zero6, ?_⟩; (conv => whnf); refine ⟨by show _ * 97 ≤ _; omega, ?_⟩; (conv => whnf))
          | (refine ⟨zero6, rfl, hrd.mono hle2, ones_zero6, ?_⟩; (conv => whnf); refine ⟨by show _ * 97 ≤ _; omega, ?_⟩; (conv => whnf))
          | (refine ⟨⟨by omega, by omega⟩, ?_⟩; (conv => whnf))
          | (show (List.length ms : Int).toNat * 6 + 6 ≤ (xs ++ zero6).length; rw [List.length_append, hx.length]; show _ ≤ _ * 6 + 6; omega)
          | exact hmem _ _ _ ⟨hr, rfl, leafM hx hj⟩
          | (refine And.intro ?_ ?_ <;> (conv => whnf)))
end Go.Kx.Js
namespace Go.Kx.Js
open Go.Proofs Go.Kx Go.RowKit
set_option maxRecDepth 20000
theorem member_ (s : ByteArray) (hs : s.size ≤ 200000) (d o : Int) (val : List UInt8 → Res J) (hv : VSays s d o val) (l : List UInt8) (hl : Sfx l (tL s)) (ms : Ms) (xs : List Value) (hn : List.length ms ≤ 200000) (H : Hp) (hx : MsAt H ms xs) :
  CallO Tryz.prog 389 [me, .si (.ce (.ptr 1 0))] H [rdB s l d o, vO (.self 2), rowO ms xs] fun e H' G' => OutM s d o ms xs (memP val ms l) e H' G' := by
 refine CallO.sub (member4 s hs d o val hv l hl ms xs hn H hx) ?_
 intro e H' G' hle hout
 cases hm : memP val ms l with
 | no er r =>
  rw [hm] at hout
  obtain ⟨rfl, l2, o2, rfl⟩ := hout
  exact ⟨rfl, l2, o2, rfl⟩
 | ok ms' r =>
  rw [hm] at hout
  obtain ⟨hr, rfl, xs', b, hx', rfl⟩ := hout
  exact ⟨.tu [], [rdB s r d o, vO (.self 3), .dead, rowO ms' xs'], [0, 1, 2, 4], rfl, ⟨rfl, rfl, trivial, rfl, trivial⟩, rfl, hr, rfl, xs', hx', rfl⟩
def OutO (s : ByteArray) (d o : Int) (ms : Ms) (xs : List Value) (res : Res Ms) (e : SE) (H' : Hp) (G' : List SB) : Prop :=
 match res with
 | .ok ms' r => Sfx r (tL s) ∧ e = .ret (.tu []) ∧ ∃ xs', MsAt H' ms' xs' ∧ G' = [rdB s r d o, rB, vO (.self 4), .dead, rowO ms' xs']
 | .no er r => e = .pan [{ v := faultV er (pos s r), recovered := false }] ∧ ∃ l' o', G' = [rdB s l' d o', rB, vO (.self 3), rowO ms xs]
theorem elO_ (s : ByteArray) (hs : s.size ≤ 200000) (d o : Int) (val : List UInt8 → Res J) (hv : VSays s d o val) (l : List UInt8) (hl : Sfx l (tL s)) (ms : Ms) (xs : List Value) (hn : List.length ms ≤ 200000) (H : Hp) (hx : MsAt H ms xs) :
  CallO Tryz.prog 388 [.si (.ce (.ptr 1 0)), .si (.ce (.ptr 2 0))] H [rdB s l d o, rB, vO (.self 3), rowO ms xs] fun e H' G' => OutO s d o ms xs (memP val ms l) e H' G' := by
 refine CallO.of_body tab Tryz.func388 rfl (nt := Tryz.f388.ntmps) rfl (by kernel_rfl) ?_
 (conv => whnf)
 refine ⟨⟨_, Tryz.func389, rfl, by kernel_rfl⟩, CallS.use (member_ s hs d o val hv l hl ms xs hn H hx) [0, 2, 3] rfl rfl ⟨rfl, rfl, rfl, trivial⟩ ?_⟩
 intro e H2 G' hle2 hout
 cases hm : memP val ms l with
 | no er r =>
  rw [hm] at hout
  obtain ⟨rfl, l2, o2, rfl⟩ := hout
  (conv => whnf)
  exact ⟨rfl, l2, o2, rfl⟩
 | ok ms' r =>
  rw [hm] at hout
  obtain ⟨hr, rfl, xs', hx', rfl⟩ := hout
  (conv => whnf)
  exact ⟨hr, rfl, xs', hx', rfl⟩
theorem rowP_end {α : Type} {one : α → List UInt8 → Res α} {en : UInt8} {m : Nat} {x : α} {l r : List UInt8} (h : tk en l = some r) : rowP one en (m + 1) true x l = .ok x r := by
 show (match (if true then tk en l else none) with | some r => _ | none => _) = _
 rw [if_pos rfl, h]
theorem rowP_go {α : Type} {one : α → List UInt8 → Res α} {en : UInt8} {m : Nat} {first : Bool} {x : α} {l : List UInt8} (h : (if first then tk en l else none) = none) : rowP one en (m + 1) first x l = (one x l).bind fun y l1 => match tk en (blankP l1) with
   | some r => .ok y r
   | none => (mustP 44 (blankP l1)).bind fun _ l3 => rowP one en m false y (blankP l3) := by
 show (match (if first then tk en l else none) with | some r => _ | none => _) = _
 rw [h]
 rfl
theorem mustP_ok {c : UInt8} {l r : List UInt8} {u : Unit} (h : mustP c l = .ok u r) : l = c :: r := by
 unfold mustP at h
 split at h
 ·rename_i r' ht
  injection h with _ h
  subst h; exact tk_some ht
 ·cases h
def shA (q : Nat) (s : ByteArray) (l : List UInt8) (d o : Int) (js : List J) (xs : List Value) : List SB :=
 match q with
 | 0 => [rdB s l d o, rB, vA (.self 3), rowA js xs]
 | 1 => [rdB s l d o, rB, vA (.self 4), .dead, rowA js xs]
 | _ => [rdB s l d o, rB, vA (.self 5), .dead, .dead, rowA js xs]
def OutRA (s : ByteArray) (d o : Int) (res : Res (List J)) (e : SE) (H' : Hp) (G' : List SB) : Prop :=
 match res with
 | .ok js' r => Sfx r (tL s) ∧ e = .ret (.tu []) ∧ ∃ xs' q, JsAt H' js' xs' ∧ G' = shA q s r d (o - 1) js' xs'
 | .no er r => e = .pan [{ v := faultV er (pos s r), recovered := false }] ∧ ∃ l' o' q js' xs', G' = shA q s l' d o' js' xs'
theorem rowA_ (s : ByteArray) (hs : s.size ≤ 190000) (d o : Int) (ho : 0 ≤ o ∧ o ≤ 1000) (val : List UInt8 → Res J) (hv : VSays s d o val) (hvs : ∀ x l y r, elP val x l = .ok y r → Sfx r l ∧ List.length y = List.length x + 1) (l : List UInt8) (hl : Sfx l (tL s)) (H : Hp) :
  CallO Tryz.prog 386 [me, pv (.int .u8 93), .si (.ce (.fn (.func 387) 0 [(2, 0), (1, 0)]))] H [rdB s l d o, rB, vA (.self 3), rowA [] []] fun e H' G' => OutRA s d o (rowP (elP val) 93 (l.length + 1) true [] l) e H' G' := by
 refine CallO.of_body tab Tryz.func386 rfl (nt := Tryz.f386.ntmps) rfl (by kernel_rfl) ?_
 (conv => whnf)
 refine WS.loop (fun k F H2 G => ∃ (m q : Nat) (js : List J) (r : List UInt8) (xs : List Value), Sfx r (tL s) ∧ r.length < m ∧ rowP (elP val) 93 m (Nat.beq q 0) js r = rowP (elP val) 93 (l.length + 1) true [] l ∧ List.length js + r.length ≤ s.size + 1 ∧ k = r.length ∧ JsAt H2 js xs ∧ q ≤ 1 ∧
  F = [(0, me), (1, pv (.int .u8 93)), (2, .si (.ce (.fn (.func 387) 0 [(2, 0), (1, 0)]))), (6, pv (.bool (Nat.beq q 0)))] ∧ G = shA q s r d o js xs) (l.length + 1) ?_ ?_
 ·refine ⟨l.length, by omega, _, _, [0, 1, 2, 3], ⟨l.length + 1, 0, [], l, [], hl, by omega, rfl, by have := hl.le; rw [← size_eq] at this; simp; omega, rfl, .nil, by omega, rfl, rfl⟩, ?_⟩
  exact ⟨rfl, ⟨rfl, rfl, rfl, rfl, trivial⟩, rfl, rfl, rfl, rfl, trivial⟩
 rintro k F H2 G hle ⟨m, q, js, r, xs, hr, hm, hb, hlen, rfl, hx, hq, rfl, rfl⟩
 refine codeL.go tab ?_
 cases m with
 | zero => omega
 | succ m =>
 have hq2 : q = 0 ∨ q = 1 := by omega
 have hrs := hr.le
 rw [← size_eq] at hrs
 have fin : ∀ (H' : Hp) (r2 : List UInt8) (js' : List J) (xs' : List Value) (q : Nat), Sfx r2 (tL s) → JsAt H' js' xs' → rowP (elP val) 93 (l.length + 1) true [] l = .ok js' r2 → OutRA s d o (rowP (elP val) 93 (l.length + 1) true [] l) (.ret (.tu [])) H' (shA q s r2 d (o - 1) js' xs') := by
  intro H' r2 js' xs' q h1 h2 h3
  rw [h3]
  exact ⟨h1, rfl, xs', q, h2, rfl⟩
 have bad : ∀ (er : Nat) (H' : Hp) (r2 l2 : List UInt8) (o2 : Int) (js' : List J) (xs' : List Value) (q : Nat), rowP (elP val) 93 (l.length + 1) true [] l = .no er r2 → OutRA s d o (rowP (elP val) 93 (l.length + 1) true [] l) (.pan [{ v := faultV er (pos s r2), recovered := false }]) H' (shA q s l2 d o2 js' xs') := by
  intro er H' r2 l2 o2 js' xs' q h3
  rw [h3]
  exact ⟨rfl, l2, o2, q, js', xs', rfl⟩
 rcases hq2 with rfl | rfl
 ·replace hb : rowP (elP val) 93 (m + 1) true js r = rowP (elP val) 93 (l.length + 1) true [] l := hb
  (conv => whnf)
  refine ⟨⟨_, Tryz.func342, rfl, by kernel_rfl⟩, CallS.use (next_ 93 (by decide) s r hr (by omega) d o _) [0] rfl rfl ⟨rfl, trivial⟩ ?_⟩
  rintro e H4 G' hle4 ⟨rfl, h⟩
  cases hen : tk 93 r with
  | some r2 =>
   rw [hen] at h
   obtain ⟨hr2, rfl, rfl⟩ := h
   (conv => whnf)
   rw [wrap64 (x := o - 1) (by omega) (by omega)]
   rw [rowP_end hen] at hb
   exact fin _ r2 js xs 0 hr2 hx hb.symm
  | none =>
   rw [hen] at h
   obtain ⟨rfl, rfl⟩ := h
   rw [rowP_go (by exact hen)] at hb
   (conv => whnf)
   refine ⟨⟨_, Tryz.func387, rfl, by kernel_rfl⟩, CallS.use (elA_ s  d o val hv r hr js xs (by omega) H4 hx) [0, 1, 2, 3] rfl rfl ⟨rfl, rfl, rfl, rfl, trivial⟩ ?_⟩
   intro e H5 G' hle5 hout
   cases hval : val r with
   | no er r2 =>
    rw [hval] at hout; have hone : elP val js r = (val r).bind (fun j r => .ok (js ++ [j]) r) := rfl; rw [hone, hval] at hb
    obtain ⟨rfl, l2, o2, rfl⟩ := hout
    (conv => whnf)
    exact bad er _ r2 l2 o2 js xs 0 hb.symm
   | ok j r2 =>
    rw [hval] at hout; have hone : elP val js r = (val r).bind (fun j r => .ok (js ++ [j]) r) := rfl; rw [hone, hval] at hb
    have hys := hvs js r (js ++ [j]) r2 (by rw [hone, hval]; rfl)
    obtain ⟨hr2, rfl, xs', hx', rfl⟩ := hout
    (conv => whnf)
    refine ⟨⟨_, Tryz.func326, rfl, by kernel_rfl⟩, CallS.use (blank_ s r2 hr2 (by omega) d o _) [0] rfl rfl ⟨rfl, trivial⟩ ?_⟩
    rintro e H6 G' hle6 ⟨rfl, rfl, rfl⟩
    (conv => whnf)
    have hb2 := blankP_sfx r2
    have hr3 := hb2.trans hr2
    refine ⟨⟨_, Tryz.func342, rfl, by kernel_rfl⟩, CallS.use (next_ 93 (by decide) s _ hr3 (by omega) d o _) [0] rfl rfl ⟨rfl, trivial⟩ ?_⟩
    rintro e H7 G' hle7 ⟨rfl, h⟩
    replace hb : (match tk 93 (blankP r2) with | some r => Res.ok (js ++ [j]) r | none => (mustP 44 (blankP r2)).bind fun _ l3 => rowP (elP val) 93 m false (js ++ [j]) (blankP l3)) = rowP (elP val) 93 (l.length + 1) true [] l := hb
    generalize hy : js ++ [j] = y at *
    cases hen2 : tk 93 (blankP r2) with
    | some r4 =>
     rw [hen2] at h hb
     obtain ⟨hr4, rfl, rfl⟩ := h
     (conv => whnf)
     rw [wrap64 (x := o - 1) (by omega) (by omega)]
     exact fin _ r4 y xs' 1 hr4 hx' hb.symm
    | none =>
     rw [hen2] at h hb
     obtain ⟨rfl, rfl⟩ := h
     (conv => whnf)
     refine ⟨⟨_, Tryz.func383, rfl, by kernel_rfl⟩, CallS.use (must_ 44 (by decide) s _ hr3 (by omega) d o _) [0] rfl rfl ⟨rfl, trivial⟩ ?_⟩
     rintro e H8 G' hle8 ⟨rfl, hout⟩
     replace hb : ((mustP 44 (blankP r2)).bind fun _ l3 => rowP (elP val) 93 m false y (blankP l3)) = rowP (elP val) 93 (l.length + 1) true [] l := hb
     cases hm44 : mustP 44 (blankP r2) with
     | no er r4 =>
      rw [hm44] at hout hb
      obtain ⟨rfl, l2, o2, rfl⟩ := hout
      (conv => whnf)
      exact bad er _ r4 l2 o2 y xs' 1 hb.symm
     | ok u r4 =>
      rw [hm44] at hout hb
      obtain ⟨hr4, ⟨sv, rfl, rfl⟩, rfl⟩ := hout
      (conv => whnf)
      refine ⟨⟨_, Tryz.func326, rfl, by kernel_rfl⟩, CallS.use (blank_ s r4 hr4 (by omega) d o _) [0] rfl rfl ⟨rfl, trivial⟩ ?_⟩
      rintro e H9 G' hle9 ⟨rfl, rfl, rfl⟩
      (conv => whnf)
      have h44 := mustP_ok hm44
      have hl4 : r4.length + 1 = (blankP r2).length := by rw [h44]; rfl
      have hl5 := (blankP_sfx r4).le
      have hl6 := hb2.le
      have hl7 := hys.1.le
      have hl8 := hys.2
      refine ⟨(blankP r4).length, by omega, _, _, [0, 1, 2, 3, 4], ⟨m, 1, y, blankP r4, xs', (blankP_sfx r4).trans hr4, by omega, hb, by omega, rfl, hx', by omega, rfl, rfl⟩, ?_⟩
      exact ⟨rfl, ⟨rfl, rfl, rfl, trivial, rfl, trivial⟩, rfl, rfl, rfl, rfl, trivial⟩
 ·replace hb : rowP (elP val) 93 (m + 1) false js r = rowP (elP val) 93 (l.length + 1) true [] l := hb
  rw [rowP_go (show (if false = true then tk 93 r else none) = none from rfl)] at hb
  (conv => whnf)
  refine ⟨⟨_, Tryz.func387, rfl, by kernel_rfl⟩, CallS.use (elA_ s  d o val hv r hr js xs (by omega) H2 hx) [0, 1, 2, 4] rfl rfl ⟨rfl, rfl, rfl, rfl, trivial⟩ ?_⟩
  intro e H5 G' hle5 hout
  cases hval : val r with
  | no er r2 =>
   rw [hval] at hout; have hone : elP val js r = (val r).bind (fun j r => .ok (js ++ [j]) r) := rfl; rw [hone, hval] at hb
   obtain ⟨rfl, l2, o2, rfl⟩ := hout
   (conv => whnf)
   exact bad er _ r2 l2 o2 js xs 1 hb.symm
  | ok j r2 =>
   rw [hval] at hout; have hone : elP val js r = (val r).bind (fun j r => .ok (js ++ [j]) r) := rfl; rw [hone, hval] at hb
   have hys := hvs js r (js ++ [j]) r2 (by rw [hone, hval]; rfl)
   obtain ⟨hr2, rfl, xs', hx', rfl⟩ := hout
   (conv => whnf)
   refine ⟨⟨_, Tryz.func326, rfl, by kernel_rfl⟩, CallS.use (blank_ s r2 hr2 (by omega) d o _) [0] rfl rfl ⟨rfl, trivial⟩ ?_⟩
   rintro e H6 G' hle6 ⟨rfl, rfl, rfl⟩
   (conv => whnf)
   have hb2 := blankP_sfx r2
   have hr3 := hb2.trans hr2
   refine ⟨⟨_, Tryz.func342, rfl, by kernel_rfl⟩, CallS.use (next_ 93 (by decide) s _ hr3 (by omega) d o _) [0] rfl rfl ⟨rfl, trivial⟩ ?_⟩
   rintro e H7 G' hle7 ⟨rfl, h⟩
   replace hb : (match tk 93 (blankP r2) with | some r => Res.ok (js ++ [j]) r | none => (mustP 44 (blankP r2)).bind fun _ l3 => rowP (elP val) 93 m false (js ++ [j]) (blankP l3)) = rowP (elP val) 93 (l.length + 1) true [] l := hb
   generalize hy : js ++ [j] = y at *
   cases hen2 : tk 93 (blankP r2) with
   | some r4 =>
    rw [hen2] at h hb
    obtain ⟨hr4, rfl, rfl⟩ := h
    (conv => whnf)
    rw [wrap64 (x := o - 1) (by omega) (by omega)]
    exact fin _ r4 y xs' 2 hr4 hx' hb.symm
   | none =>
    rw [hen2] at h hb
    obtain ⟨rfl, rfl⟩ := h
    (conv => whnf)
    refine ⟨⟨_, Tryz.func383, rfl, by kernel_rfl⟩, CallS.use (must_ 44 (by decide) s _ hr3 (by omega) d o _) [0] rfl rfl ⟨rfl, trivial⟩ ?_⟩
    rintro e H8 G' hle8 ⟨rfl, hout⟩
    replace hb : ((mustP 44 (blankP r2)).bind fun _ l3 => rowP (elP val) 93 m false y (blankP l3)) = rowP (elP val) 93 (l.length + 1) true [] l := hb
    cases hm44 : mustP 44 (blankP r2) with
    | no er r4 =>
     rw [hm44] at hout hb
     obtain ⟨rfl, l2, o2, rfl⟩ := hout
     (conv => whnf)
     exact bad er _ r4 l2 o2 y xs' 2 hb.symm
    | ok u r4 =>
     rw [hm44] at hout hb
     obtain ⟨hr4, ⟨sv, rfl, rfl⟩, rfl⟩ := hout
     (conv => whnf)
     refine ⟨⟨_, Tryz.func326, rfl, by kernel_rfl⟩, CallS.use (blank_ s r4 hr4 (by omega) d o _) [0] rfl rfl ⟨rfl, trivial⟩ ?_⟩
     rintro e H9 G' hle9 ⟨rfl, rfl, rfl⟩
     (conv => whnf)
     have h44 := mustP_ok hm44
     have hl4 : r4.length + 1 = (blankP r2).length := by rw [h44]; rfl
     have hl5 := (blankP_sfx r4).le
     have hl6 := hb2.le
     have hl7 := hys.1.le
     have hl8 := hys.2
     refine ⟨(blankP r4).length, by omega, _, _, [0, 1, 2, 3, 5], ⟨m, 1, y, blankP r4, xs', (blankP_sfx r4).trans hr4, by omega, hb, by omega, rfl, hx', by omega, rfl, rfl⟩, ?_⟩
     exact ⟨rfl, ⟨rfl, rfl, rfl, trivial, rfl, trivial⟩, rfl, rfl, rfl, rfl, trivial⟩
def shO (q : Nat) (s : ByteArray) (l : List UInt8) (d o : Int) (js : List (ByteArray × J)) (xs : List Value) : List SB :=
 match q with
 | 0 => [rdB s l d o, rB, vO (.self 3), rowO js xs]
 | 1 => [rdB s l d o, rB, vO (.self 4), .dead, rowO js xs]
 | _ => [rdB s l d o, rB, vO (.self 5), .dead, .dead, rowO js xs]
def OutRO (s : ByteArray) (d o : Int) (res : Res (List (ByteArray × J))) (e : SE) (H' : Hp) (G' : List SB) : Prop :=
 match res with
 | .ok js' r => Sfx r (tL s) ∧ e = .ret (.tu []) ∧ ∃ xs' q, MsAt H' js' xs' ∧ G' = shO q s r d (o - 1) js' xs'
 | .no er r => e = .pan [{ v := faultV er (pos s r), recovered := false }] ∧ ∃ l' o' q js' xs', G' = shO q s l' d o' js' xs'
theorem rowO_ (s : ByteArray) (hs : s.size ≤ 190000) (d o : Int) (ho : 0 ≤ o ∧ o ≤ 1000) (val : List UInt8 → Res J) (hv : VSays s d o val) (hvs : ∀ x l y r, memP val x l = .ok y r → Sfx r l ∧ List.length y = List.length x + 1) (l : List UInt8) (hl : Sfx l (tL s)) (H : Hp) :
  CallO Tryz.prog 386 [me, pv (.int .u8 125), .si (.ce (.fn (.func 388) 0 [(1, 0), (2, 0)]))] H [rdB s l d o, rB, vO (.self 3), rowO [] []] fun e H' G' => OutRO s d o (rowP (memP val) 125 (l.length + 1) true [] l) e H' G' := by
 refine CallO.of_body tab Tryz.func386 rfl (nt := Tryz.f386.ntmps) rfl (by kernel_rfl) ?_
 (conv => whnf)
 refine WS.loop (fun k F H2 G => ∃ (m q : Nat) (js : List (ByteArray × J)) (r : List UInt8) (xs : List Value), Sfx r (tL s) ∧ r.length < m ∧ rowP (memP val) 125 m (Nat.beq q 0) js r = rowP (memP val) 125 (l.length + 1) true [] l ∧ List.length js + r.length ≤ s.size + 1 ∧ k = r.length ∧ MsAt H2 js xs ∧ q ≤ 1 ∧
  F = [(0, me), (1, pv (.int .u8 125)), (2, .si (.ce (.fn (.func 388) 0 [(1, 0), (2, 0)]))), (6, pv (.bool (Nat.beq q 0)))] ∧ G = shO q s r d o js xs) (l.length + 1) ?_ ?_
 ·refine ⟨l.length, by omega, _, _, [0, 1, 2, 3], ⟨l.length + 1, 0, [], l, [], hl, by omega, rfl, by have := hl.le; rw [← size_eq] at this; simp; omega, rfl, .nil, by omega, rfl, rfl⟩, ?_⟩
  exact ⟨rfl, ⟨rfl, rfl, rfl, rfl, trivial⟩, rfl, rfl, rfl, rfl, trivial⟩
 rintro k F H2 G hle ⟨m, q, js, r, xs, hr, hm, hb, hlen, rfl, hx, hq, rfl, rfl⟩
 refine codeL.go tab ?_
 cases m with
 | zero => omega
 | succ m =>
 have hq2 : q = 0 ∨ q = 1 := by omega
 have hrs := hr.le
 rw [← size_eq] at hrs
 have fin : ∀ (H' : Hp) (r2 : List UInt8) (js' : List (ByteArray × J)) (xs' : List Value) (q : Nat), Sfx r2 (tL s) → MsAt H' js' xs' → rowP (memP val) 125 (l.length + 1) true [] l = .ok js' r2 → OutRO s d o (rowP (memP val) 125 (l.length + 1) true [] l) (.ret (.tu [])) H' (shO q s r2 d (o - 1) js' xs') := by
  intro H' r2 js' xs' q h1 h2 h3
  rw [h3]
  exact ⟨h1, rfl, xs', q, h2, rfl⟩
 have bad : ∀ (er : Nat) (H' : Hp) (r2 l2 : List UInt8) (o2 : Int) (js' : List (ByteArray × J)) (xs' : List Value) (q : Nat), rowP (memP val) 125 (l.length + 1) true [] l = .no er r2 → OutRO s d o (rowP (memP val) 125 (l.length + 1) true [] l) (.pan [{ v := faultV er (pos s r2), recovered := false }]) H' (shO q s l2 d o2 js' xs') := by
  intro er H' r2 l2 o2 js' xs' q h3
  rw [h3]
  exact ⟨rfl, l2, o2, q, js', xs', rfl⟩
 rcases hq2 with rfl | rfl
 ·replace hb : rowP (memP val) 125 (m + 1) true js r = rowP (memP val) 125 (l.length + 1) true [] l := hb
  (conv => whnf)
  refine ⟨⟨_, Tryz.func342, rfl, by kernel_rfl⟩, CallS.use (next_ 125 (by decide) s r hr (by omega) d o _) [0] rfl rfl ⟨rfl, trivial⟩ ?_⟩
  rintro e H4 G' hle4 ⟨rfl, h⟩
  cases hen : tk 125 r with
  | some r2 =>
   rw [hen] at h
   obtain ⟨hr2, rfl, rfl⟩ := h
   (conv => whnf)
   rw [wrap64 (x := o - 1) (by omega) (by omega)]
   rw [rowP_end hen] at hb
   exact fin _ r2 js xs 0 hr2 hx hb.symm
  | none =>
   rw [hen] at h
   obtain ⟨rfl, rfl⟩ := h
   rw [rowP_go (by exact hen)] at hb
   (conv => whnf)
   refine ⟨⟨_, Tryz.func388, rfl, by kernel_rfl⟩, CallS.use (elO_ s (by omega) d o val hv r hr js xs (by omega) H4 hx) [0, 1, 2, 3] rfl rfl ⟨rfl, rfl, rfl, rfl, trivial⟩ ?_⟩
   intro e H5 G' hle5 hout
   cases hval : memP val js r with
   | no er r2 =>
    rw [hval] at hout; rw [hval] at hb
    obtain ⟨rfl, l2, o2, rfl⟩ := hout
    (conv => whnf)
    exact bad er _ r2 l2 o2 js xs 0 hb.symm
   | ok y r2 =>
    rw [hval] at hout; rw [hval] at hb
    have hys := hvs js r y r2 hval
    obtain ⟨hr2, rfl, xs', hx', rfl⟩ := hout
    (conv => whnf)
    refine ⟨⟨_, Tryz.func326, rfl, by kernel_rfl⟩, CallS.use (blank_ s r2 hr2 (by omega) d o _) [0] rfl rfl ⟨rfl, trivial⟩ ?_⟩
    rintro e H6 G' hle6 ⟨rfl, rfl, rfl⟩
    (conv => whnf)
    have hb2 := blankP_sfx r2
    have hr3 := hb2.trans hr2
    refine ⟨⟨_, Tryz.func342, rfl, by kernel_rfl⟩, CallS.use (next_ 125 (by decide) s _ hr3 (by omega) d o _) [0] rfl rfl ⟨rfl, trivial⟩ ?_⟩
    rintro e H7 G' hle7 ⟨rfl, h⟩
    replace hb : (match tk 125 (blankP r2) with | some r => Res.ok y r | none => (mustP 44 (blankP r2)).bind fun _ l3 => rowP (memP val) 125 m false y (blankP l3)) = rowP (memP val) 125 (l.length + 1) true [] l := hb
    cases hen2 : tk 125 (blankP r2) with
    | some r4 =>
     rw [hen2] at h hb
     obtain ⟨hr4, rfl, rfl⟩ := h
     (conv => whnf)
     rw [wrap64 (x := o - 1) (by omega) (by omega)]
     exact fin _ r4 y xs' 1 hr4 hx' hb.symm
    | none =>
     rw [hen2] at h hb
     obtain ⟨rfl, rfl⟩ := h
     (conv => whnf)
     refine ⟨⟨_, Tryz.func383, rfl, by kernel_rfl⟩, CallS.use (must_ 44 (by decide) s _ hr3 (by omega) d o _) [0] rfl rfl ⟨rfl, trivial⟩ ?_⟩
     rintro e H8 G' hle8 ⟨rfl, hout⟩
     replace hb : ((mustP 44 (blankP r2)).bind fun _ l3 => rowP (memP val) 125 m false y (blankP l3)) = rowP (memP val) 125 (l.length + 1) true [] l := hb
     cases hm44 : mustP 44 (blankP r2) with
     | no er r4 =>
      rw [hm44] at hout hb
      obtain ⟨rfl, l2, o2, rfl⟩ := hout
      (conv => whnf)
      exact bad er _ r4 l2 o2 y xs' 1 hb.symm
     | ok u r4 =>
      rw [hm44] at hout hb
      obtain ⟨hr4, ⟨sv, rfl, rfl⟩, rfl⟩ := hout
      (conv => whnf)
      refine ⟨⟨_, Tryz.func326, rfl, by kernel_rfl⟩, CallS.use (blank_ s r4 hr4 (by omega) d o _) [0] rfl rfl ⟨rfl, trivial⟩ ?_⟩
      rintro e H9 G' hle9 ⟨rfl, rfl, rfl⟩
      (conv => whnf)
      have h44 := mustP_ok hm44
      have hl4 : r4.length + 1 = (blankP r2).length := by rw [h44]; rfl
      have hl5 := (blankP_sfx r4).le
      have hl6 := hb2.le
      have hl7 := hys.1.le
      have hl8 := hys.2
      refine ⟨(blankP r4).length, by omega, _, _, [0, 1, 2, 3, 4], ⟨m, 1, y, blankP r4, xs', (blankP_sfx r4).trans hr4, by omega, hb, by omega, rfl, hx', by omega, rfl, rfl⟩, ?_⟩
      exact ⟨rfl, ⟨rfl, rfl, rfl, trivial, rfl, trivial⟩, rfl, rfl, rfl, rfl, trivial⟩
 ·replace hb : rowP (memP val) 125 (m + 1) false js r = rowP (memP val) 125 (l.length + 1) true [] l := hb
  rw [rowP_go (show (if false = true then tk 125 r else none) = none from rfl)] at hb
  (conv => whnf)
  refine ⟨⟨_, Tryz.func388, rfl, by kernel_rfl⟩, CallS.use (elO_ s (by omega) d o val hv r hr js xs (by omega) H2 hx) [0, 1, 2, 4] rfl rfl ⟨rfl, rfl, rfl, rfl, trivial⟩ ?_⟩
  intro e H5 G' hle5 hout
  cases hval : memP val js r with
  | no er r2 =>
   rw [hval] at hout; rw [hval] at hb
   obtain ⟨rfl, l2, o2, rfl⟩ := hout
   (conv => whnf)
   exact bad er _ r2 l2 o2 js xs 1 hb.symm
  | ok y r2 =>
   rw [hval] at hout; rw [hval] at hb
   have hys := hvs js r y r2 hval
   obtain ⟨hr2, rfl, xs', hx', rfl⟩ := hout
   (conv => whnf)
   refine ⟨⟨_, Tryz.func326, rfl, by kernel_rfl⟩, CallS.use (blank_ s r2 hr2 (by omega) d o _) [0] rfl rfl ⟨rfl, trivial⟩ ?_⟩
   rintro e H6 G' hle6 ⟨rfl, rfl, rfl⟩
   (conv => whnf)
   have hb2 := blankP_sfx r2
   have hr3 := hb2.trans hr2
   refine ⟨⟨_, Tryz.func342, rfl, by kernel_rfl⟩, CallS.use (next_ 125 (by decide) s _ hr3 (by omega) d o _) [0] rfl rfl ⟨rfl, trivial⟩ ?_⟩
   rintro e H7 G' hle7 ⟨rfl, h⟩
   replace hb : (match tk 125 (blankP r2) with | some r => Res.ok y r | none => (mustP 44 (blankP r2)).bind fun _ l3 => rowP (memP val) 125 m false y (blankP l3)) = rowP (memP val) 125 (l.length + 1) true [] l := hb
   cases hen2 : tk 125 (blankP r2) with
   | some r4 =>
    rw [hen2] at h hb
    obtain ⟨hr4, rfl, rfl⟩ := h
    (conv => whnf)
    rw [wrap64 (x := o - 1) (by omega) (by omega)]
    exact fin _ r4 y xs' 2 hr4 hx' hb.symm
   | none =>
    rw [hen2] at h hb
    obtain ⟨rfl, rfl⟩ := h
    (conv => whnf)
    refine ⟨⟨_, Tryz.func383, rfl, by kernel_rfl⟩, CallS.use (must_ 44 (by decide) s _ hr3 (by omega) d o _) [0] rfl rfl ⟨rfl, trivial⟩ ?_⟩
    rintro e H8 G' hle8 ⟨rfl, hout⟩
    replace hb : ((mustP 44 (blankP r2)).bind fun _ l3 => rowP (memP val) 125 m false y (blankP l3)) = rowP (memP val) 125 (l.length + 1) true [] l := hb
    cases hm44 : mustP 44 (blankP r2) with
    | no er r4 =>
     rw [hm44] at hout hb
     obtain ⟨rfl, l2, o2, rfl⟩ := hout
     (conv => whnf)
     exact bad er _ r4 l2 o2 y xs' 2 hb.symm
    | ok u r4 =>
     rw [hm44] at hout hb
     obtain ⟨hr4, ⟨sv, rfl, rfl⟩, rfl⟩ := hout
     (conv => whnf)
     refine ⟨⟨_, Tryz.func326, rfl, by kernel_rfl⟩, CallS.use (blank_ s r4 hr4 (by omega) d o _) [0] rfl rfl ⟨rfl, trivial⟩ ?_⟩
     rintro e H9 G' hle9 ⟨rfl, rfl, rfl⟩
     (conv => whnf)
     have h44 := mustP_ok hm44
     have hl4 : r4.length + 1 = (blankP r2).length := by rw [h44]; rfl
     have hl5 := (blankP_sfx r4).le
     have hl6 := hb2.le
     have hl7 := hys.1.le
     have hl8 := hys.2
     refine ⟨(blankP r4).length, by omega, _, _, [0, 1, 2, 3, 5], ⟨m, 1, y, blankP r4, xs', (blankP_sfx r4).trans hr4, by omega, hb, by omega, rfl, hx', by omega, rfl, rfl⟩, ?_⟩
     exact ⟨rfl, ⟨rfl, rfl, rfl, trivial, rfl, trivial⟩, rfl, rfl, rfl, rfl, trivial⟩
end Go.Kx.Js
