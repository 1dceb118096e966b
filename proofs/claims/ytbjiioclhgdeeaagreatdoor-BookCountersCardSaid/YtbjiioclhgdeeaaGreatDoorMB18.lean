/- BookCounters walked: what two changes count, and what lies on the disk. No condition of its own. -/
import Derived.Test.YtbjiioclhgdeeaaGreatDoorMB17
namespace Go.Kx
open Go.Proofs Go.RowKit
section
variable {P : Program} {n e : Nat} {D : Pin}
theorem codeL.tell {c : Code} {K : KT} {F : Fr} {H : Hp} {G : List SB} (i : Nat) (x : Value) (hi : getX F i fun sv => sv = pv x) (h : codeL P n e D c K ((i, .si (.ce (.self G.length))) :: F) H (G ++ [.frz x])) : codeL P n e D c K F H G := by
 obtain ⟨sv, h1, h2⟩ := getX_ok hi
 subst h2
 refine ⟨fun w0 M hgd H0 ρ a w hs hf hd hn => ?_⟩
 have hs' := hs.adopt (s := .frz x) (r := x) rfl (fun g hg => by cases hg)
 obtain ⟨v, h3, h4⟩ := hf i _ h1
 have h4' : v = x := h4
 subst h4'
 refine wp_mono (h.to w0 M hgd H0 _ a w hs' ?_ hd hn) (PostX.le (Pre.append _ _).toE (.refl _))
 intro j sv hm
 rcases List.mem_cons.1 hm with hm | hm
 ·injection hm with e1 e2; subst e1 e2
  refine ⟨_, h3, ?_⟩
  show (ρ ++ [v])[G.length]? = some _
  rw [List.getElem?_append_right (by rw [hs.len]; exact Nat.le_refl _)]
  simp [hs.len]
 ·exact (hf.mono (Pre.append _ _)) j sv hm
theorem WS.tell {c : Code} {K : KT} {F : Fr} {H : Hp} {G : List SB} (i : Nat) (x : Value) (hi : getX F i fun sv => sv = pv x) (h : WS P n e D c K ((i, .si (.ce (.self G.length))) :: F) H (G ++ [.frz x])) : WS P n e D c K F H G := ⟨(codeL.tell i x hi (codeL.ofS h)).to⟩
end
theorem all2_told {ρ : List Value} {G : List SB} {w : World} {H : Hp} (hw : Sw ρ H G w) {s1 s : List SV} (ha : All2 (fun a b => b = a ∨ ∃ k x, G[k]? = some (.frz x) ∧ b = .si (.ce (.self k)) ∧ a = pv x) s1 s) : ∀ {vs : List Value}, All2 (SV.Is ρ) s vs → All2 (SV.Is ρ) s1 vs := by
 induction ha with
 | nil => intro vs h; cases h; exact .nil
 | cons h1 h2 ih =>
  intro vs h
  cases h with
  | cons h3 h4 =>
   refine .cons ?_ (ih h4)
   rcases h1 with rfl | ⟨k, x, hk, rfl, rfl⟩
   ·exact h3
   ·exact hw.ok k _ _ hk h3
theorem CallS.told {P : Program} {f : FuncId} {s1 s : List SV} {H : Hp} {G : List SB} {K : SE → Hp → List SB → Prop} (ha : All2 (fun a b => b = a ∨ ∃ k x, G[k]? = some (.frz x) ∧ b = .si (.ce (.self k)) ∧ a = pv x) s1 s) (h : CallS P f s1 H G K) : CallS P f s H G K :=
 ⟨fun w0 M hgd H0 ρ w vs hs hv => h.to w0 M hgd H0 ρ w vs hs (all2_told hs.sw ha hv)⟩
end Go.Kx
namespace Go.Kx.L17
open Go.Proofs Go.Kx Go.RowKit Go.Kx.Wl Go.Kx.Dk Go.Kx.Cr Go.Kx.Wa Go.Kx.Kv Go.Kx.Ka Go.Kx.Bk
set_option maxRecDepth 20000
set_option linter.unusedSimpArgs false
structure Lv (d : Dk) (h g : Nat) (ls : List (List Stp)) (done : List ByteArray) (r : Nat) : Prop where
 fine : Fine d
 len : d.bs.length = 16384
 store : StoreIs d.bs h g ls
 inv : CntInv (tnOf ls).1 done
 cost : costs (ls.map recS) ≤ 3000 * r
 num : ls.length ≤ r
theorem cntS_right {x : ByteArray} (h2 : x.size ≤ 40) {k : Nat} (hk : k < 10000000000000) : RightSt (cntS x k) := ⟨.inl rfl, cntK_size x h2, by
 have := dec_len 13 k (by decide) (by omega)
 show (Lib.decDigits k).length ≤ 4096
 omega⟩
theorem stL_right : ∀ (xs done : List ByteArray), (∀ x ∈ xs, x.size ≤ 40) → done.length + xs.length ≤ 1000000 → (∀ p ∈ stL done xs, RightSt p) ∧ (recS (stL done xs)).length ≤ 145 * xs.length
 | [], _, _, _ => ⟨fun p hp => by simp [stL] at hp, Nat.zero_le _⟩
 | x :: r, done, hx, hl => by
  have hl' : done.length + (r.length + 1) ≤ 1000000 := by simpa using hl
  obtain ⟨h1, h2⟩ := stL_right r (done ++ [x]) (fun y hy => hx y (List.mem_cons_of_mem _ hy)) (by rw [List.length_append]; show done.length + 1 + r.length ≤ _; omega)
  have hxs := hx x List.mem_cons_self
  have hcl := cntN_le done x
  refine ⟨fun p hp => ?_, ?_⟩
  ·rcases List.mem_cons.1 hp with rfl | hp
   ·exact cntS_right hxs (by omega)
   ·exact h1 p hp
  ·have hk := cntK_size x hxs
   have hd := dec_len 13 (cntN done x + 1) (by decide) (by omega)
   have e : recS (stL done (x :: r)) = stB (cntS x (cntN done x + 1)) ++ recS (stL (done ++ [x]) r) := rfl
   have e2 : (stB (cntS x (cntN done x + 1))).length ≤ 145 := by
    unfold stB cntS
    rw [List.length_cons, List.length_cons, List.length_append, kb_len, if_pos rfl, List.length_cons, List.length_cons]
    show (cntK x).size + _ + 1 + 1 ≤ _
    dsimp only
    omega
   rw [e, List.length_append, List.length_cons]
   omega
theorem add_commit (D : List UInt8) (h g : Nat) (ls : List (List Stp)) (l : List Stp) : addB D h g (16 + costs (ls.map recS)) (recS l) = commitB D h g ls l := by
 unfold addB commitB
 rw [Nat.add_assoc (h * (D.length / 2)) (16 + costs (ls.map recS)) 8]
theorem inv_all : ∀ (xs : List ByteArray) (done : List ByteArray) (s : TN), CntInv s.1 done → CntInv (allN s (stL done xs)).1 (done ++ xs)
 | [], done, s, h => by rw [List.append_nil]; exact h
 | x :: r, done, s, h => by
  have := inv_all r (done ++ [x]) _ (h.next x)
  rw [List.append_assoc] at this
  exact this
theorem Lv.commit {d : Dk} {h g : Nat} {ls : List (List Stp)} {done : List ByteArray} {r : Nat} (hv : Lv d h g ls done r) {xs : List ByteArray} (hx : ∀ x ∈ xs, x.size ≤ 40) (hxl : xs.length ≤ 20) (h0 : xs ≠ []) (hdl : done.length ≤ 1000) (hr : r ≤ 1) (wr : Int) :
  Lv (Dk.put d (addB d.bs h g (16 + costs (ls.map recS)) (recS (stL done xs))) wr) h g (ls ++ [stL done xs]) (done ++ xs) (r + 1) := by
 obtain ⟨h1, h2⟩ := stL_right xs done hx (by omega)
 have hc := hv.cost
 have hn := hv.num
 have hne : stL done xs ≠ [] := fun e => h0 (stL_nil.1 e)
 obtain ⟨c1, c2, c3⟩ := hv.store.commit hne h1 (by omega) (by rw [hv.len]; omega)
 rw [add_commit]
 refine ⟨hv.fine.put c1 wr, ?_, c2, ?_, ?_, by rw [List.length_append]; show _ + 1 ≤ _; omega⟩
 ·show (commitB _ _ _ _ _).length = _
  rw [c1, hv.len]
 ·rw [tnOf_snoc]
  exact inv_all xs done _ hv.inv
 ·rw [List.map_append]
  have : costs (ls.map recS ++ [recS (stL done xs)]) = costs (ls.map recS) + (9 + (recS (stL done xs)).length) := by unfold costs; simp
  show costs (ls.map recS ++ [recS (stL done xs)]) ≤ _
  rw [this]
  omega
theorem Lv.fresh (n : Nat) (h : n = 16384) (wr : Int) : Lv (Dk.put (dk0 n) (freshB n) wr) 0 1 [] [] 0 := by
 subst h
 have hf := fresh_is (n := 16384) (by decide)
 exact ⟨⟨rfl, rfl, by show 1024 ≤ (freshB 16384).length; rw [hf.1]; decide, by show (freshB 16384).length ≤ _; rw [hf.1]; decide⟩, hf.1, hf.2, fun c _ _ => .inl ⟨rfl, rfl⟩, Nat.le_refl _, Nat.le_refl _⟩
theorem Lv.put {d : Dk} {h g : Nat} {ls : List (List Stp)} {done : List ByteArray} {r : Nat} (hv : Lv d h g ls done r) (wr : Int) : Lv (Dk.put d d.bs wr) h g ls done r := ⟨hv.fine.put rfl wr, hv.len, hv.store, hv.inv, hv.cost, hv.num⟩
theorem Lv.more {d : Dk} {h g : Nat} {ls : List (List Stp)} {done : List ByteArray} {r : Nat} (hv : Lv d h g ls done r) : Lv d h g ls done (r + 1) := ⟨hv.fine, hv.len, hv.store, hv.inv, Nat.le_trans hv.cost (Nat.mul_le_mul_left _ (Nat.le_succ r)), Nat.le_succ_of_le hv.num⟩
theorem again {d : Dk} {h g : Nat} {ls : List (List Stp)} {done : List ByteArray} {r : Nat} (hv : Lv d h g ls done r) (hr : r ≤ 2) (lim : Int) (h1 : 1 ≤ lim) (h2 : lim ≤ 1099511627776) (H : Hp) :
  CallO Tryz.prog 10 [dP, pv (.int .i64 lim)] H (diskG d) fun e H' G' => RBook d d.bs h g ls lim e H' G' ∧ H.Le H' := by
 have hc := hv.cost
 exact bopen_ d hv.fine d.bs h g ls (open_is hv.store) (fun l hl => (hv.store.right l hl).2) (by rw [hv.len]; omega) lim h1 h2 H
def ovL (lim : Int) (done : List ByteArray) : List ByteArray → Bool
 | [] => false
 | x :: r => decide (((cntN done x + 1 : Nat) : Int) > lim) || ovL lim (done ++ [x]) r
theorem ovL_snoc (lim : Int) (x : ByteArray) : ∀ (l done : List ByteArray), ovL lim done (l ++ [x]) = (ovL lim done l || decide (((cntN (done ++ l) x + 1 : Nat) : Int) > lim))
 | [], done => by simp [ovL]
 | a :: r, done => by
  rw [List.cons_append, ovL, ovL_snoc lim x r (done ++ [a]), ovL]
  simp [Bool.or_assoc]
theorem over_iff (lim : Int) : ∀ (xs done : List ByteArray), ovL lim done xs = true ↔ Over lim done xs
 | [], done => by
  constructor
  ·intro h; cases h
  ·rintro ⟨i, x, h, _⟩; simp at h
 | a :: r, done => by
  rw [ovL, Bool.or_eq_true, over_iff lim r (done ++ [a])]
  constructor
  ·rintro (h | ⟨i, x, h1, h2⟩)
   ·have h := of_decide_eq_true h
    exact ⟨0, a, rfl, by rw [List.take_zero, List.append_nil]; omega⟩
   ·refine ⟨i + 1, x, h1, ?_⟩
    rw [List.take_succ_cons]
    rw [List.append_assoc] at h2
    exact h2
  ·rintro ⟨i, x, h1, h2⟩
   cases i with
   | zero =>
    left
    obtain rfl : a = x := Option.some.inj h1
    rw [List.take_zero, List.append_nil] at h2
    exact decide_eq_true (by omega)
   | succ i =>
    right
    rw [List.take_succ_cons] at h2
    exact ⟨i, x, h1, by rw [List.append_assoc]; exact h2⟩
end Go.Kx.L17
namespace Go.Kx.L17
open Go.Proofs Go.Kx Go.RowKit Go.Kx.Wl Go.Kx.Dk Go.Kx.Cr Go.Kx.Wa Go.Kx.Kv Go.Kx.Ka Go.Kx.Bk
set_option maxRecDepth 20000
set_option linter.unusedSimpArgs false
def strRow (xs : List ByteArray) : SB := .row 9 1 xs.length (xs.map .string)
theorem counters_ (lim : Int) (A1 A2 : Option Addr) (xs1 xs2 : List ByteArray) (c1 c2 : Nat) (hc1 : xs1.length ≤ c1) (hc2 : xs2.length ≤ c2) (H : Hp) (hE : ErrH H) (hA1 : NmsAt H A1 xs1) (hA2 : NmsAt H A2 xs2) :
    CallO Tryz.prog 3 [pv (.int .i64 lim), pv (.slice A1 xs1.length c1), pv (.slice A2 xs2.length c2)] H [] fun e _ _ => e = .ret (pv (.bool true)) := by
  refine CallO.of_body Tl.tab Tryz.func3 rfl (nt := Tryz.f3.ntmps) rfl (by kernel_rfl) ?_
  (conv => whnf)
  refine ⟨⟨_, Tryz.func7, rfl, by kernel_rfl⟩, CallS.use (anchor_ H) [] rfl rfl trivial ?_⟩
  rintro e H2 G' hle2 ⟨rfl, hle2', rfl⟩
  (conv => whnf)
  refine br.of (fun h1 => ?_) (fun h1 => ?_) <;> (conv => whnf)
  · rfl
  have h1 := of_decide_eq_false h1
  by_cases h2 : lim > 1099511627776
  · rw [decide_eq_true h2]
    (conv => whnf)
    rfl
  rw [decide_eq_false h2]
  (conv => whnf)
  by_cases h3 : ((xs1.length : Nat) : Int) > 20
  · rw [decide_eq_true h3]
    (conv => whnf)
    rfl
  rw [decide_eq_false h3]
  (conv => whnf)
  by_cases h4 : ((xs2.length : Nat) : Int) > 20
  · rw [decide_eq_true h4]
    (conv => whnf)
    rfl
  rw [decide_eq_false h4]
  (conv => whnf)
  refine ⟨⟨_, Tryz.func8, rfl, by kernel_rfl⟩, CallS.use (opened_ 16384 (by decide) (by decide) lim (by omega) (by omega) H2) [] rfl rfl trivial ?_⟩
  rintro e H3 G' hle3 ⟨rfl, hle3', wr, nr, zs, m, f, ht, rfl, rfl⟩
  (conv => whnf)
  refine ⟨by decide, .inl ?_⟩
  intro g H4 hle4 hrd
  (conv => whnf)
  refine WS.nilRow 9 9 1 rfl ?_
  (conv => whnf)
  have hw1 : ∀ (j : Nat), j < 2 → ∃ (A : Option Addr) (xs : List ByteArray) (cp : Nat), [Value.slice A1 xs1.length c1, Value.slice A2 xs2.length c2][j]? = some (.slice A xs.length cp) ∧ xs.length ≤ cp ∧ xs.length ≤ 20 ∧ NmsAt H A xs := by
    intro j hj
    match j, hj with
    | 0, _ => exact ⟨A1, xs1, c1, rfl, hc1, by omega, hA1⟩
    | 1, _ => exact ⟨A2, xs2, c2, rfl, hc2, by omega, hA2⟩
  refine WS.loop (fun k' F H5 G => ∃ (j : Nat) (d : Dk) (h gn : Nat) (ls : List (List Stp)) (done : List ByteArray) (nr : Nat) (zs : List Value) (m : Nat) (f : Value → Option Value), j ≤ 2 ∧ Lv d h gn ls done j ∧ done.length ≤ 20 * j ∧ nr = ls.length ∧ TblM H5 f m (tnOf ls) ∧ k' = 2 - j ∧
      F = [(0, pv (.int .i64 lim)), (7, .si (.ce (.ptr 6 0))), (8, .si (.ce (.ptr 1 0))), (9, .si (.ce (.self 7))), (53, pv (.slice (some ⟨g, 0, none⟩) 2 2)), (54, iV 2), (55, iV j)] ∧ H4.Le H5 ∧ G = bookG d (lgOf h gn ls nr zs) m f 0 lim ++ [strRow done]) 3 ?_ ?_
  · refine ⟨2, by omega, _, _, [0, 1, 2, 3, 4, 5, 6, 7], ⟨0, _, 0, 1, [], [], 0, zs, m, f, by omega, Lv.fresh 16384 rfl wr, Nat.le_refl _, rfl, ht.mono hle4, rfl, rfl, .refl _, rfl⟩, ?_⟩
    exact ⟨rfl, ⟨rfl, rfl, rfl, rfl, rfl, rfl, rfl, rfl, trivial⟩, rfl, rfl, rfl, rfl, rfl, rfl, rfl, trivial⟩
  rintro k' F H5 G hle5 ⟨j, d, h, gn, ls, done, nr, zs, m, f, hj, hv, hdn, hnr, ht5, rfl, rfl, hle, rfl⟩
  refine codeL.go Tl.tab ?_
  (conv => whnf)
  refine br.of (fun h1 => ?_) (fun h1 => ?_) <;> (conv => whnf)
  rotate_left
  · rfl
  have h1 := of_decide_eq_true h1
  obtain ⟨A, xs, cp, hjx, hcp, hx20, hA⟩ := hw1 j (by omega)
  refine ⟨⟨by omega, by omega⟩, ⟨_, _, rfl⟩, ?_⟩
  (conv => whnf)
  refine ⟨.slice A xs.length cp, ⟨g, 0, rfl, ?_⟩, ?_⟩
  · obtain ⟨_, _, e, hr2⟩ := hrd
    injection e with e; injection e with e1 e2; subst e1 e2
    have := hr2 j _ hjx
    show H5 _ (_ + (j : Int).toNat * 1) = _
    rw [show (j : Int).toNat * 1 = j by omega]
    exact hle _ _ _ (by simpa using this)
  (conv => whnf)
  refine WS.nilRow 13 3 1 rfl ?_
  (conv => whnf)
  have hdl : done.length ≤ 40 := by omega
  have hjw : IntKind.i64.wrap ((j : Int) + 1) = ((j + 1 : Nat) : Int) := by rw [wrap64 (by omega) (by omega)]; omega
  have hcst := hv.cost
  have hgen := hv.store.gen.2
  have hnum := hv.num
  by_cases hx0 : xs = []
  · subst hx0
    have hemp : ∀ (A : Option Addr) (H6 : Hp), H5.Le H6 → CallO Tryz.prog 9 [bP, pv (.slice A 0 cp)] H6 (bookG d (lgOf h gn ls nr zs) m f 0 lim) fun x H' G' => ROut (¬ Over lim done []) (fun er => er = 14 ∧ Over lim done []) d (lgOf h gn ls nr zs) m f 0 lim (tnOf ls) done [] x H' G' ∧ H6.Le H' := fun A H6 hl6 =>
      cntOut (¬ Over lim done []) (fun er => er = 14 ∧ Over lim done []) d (lgOf h gn ls nr zs) hv.fine rfl hv.store.half (by show gn < _; omega) (by show nr ≤ _; omega) m f 0 (by decide) lim (tnOf ls) done [] (by decide) (fun p hp => by simp [stL] at hp) (Nat.zero_le _) (by show 16 + costs (ls.map recS) + (9 + 0) ≤ _; rw [hv.len]; omega) A 0 cp H6 fun H9 hl9 =>
        counted_ done [] (fun x hx => by simp at hx) (by decide) (by omega) A cp ⟨d, lgOf h gn ls nr zs, m, f, 0, m, f, [], 0, false, lim⟩ rfl rfl (tnOf ls) hv.inv H9 (hE.mono ((((hle2.trans hle3).trans hle4).trans (hle.trans hl6)).trans hl9)) (.inl rfl) (ht5.mono (hl6.trans hl9))
    cases A with
    | none =>
      refine WS.loop (fun k' F H6 G => k' = 0 ∧ F = [(0, pv (.int .i64 lim)), (7, .si (.ce (.ptr 6 0))), (8, .si (.ce (.ptr 1 0))), (9, .si (.ce (.self 7))), (53, pv (.slice (some ⟨g, 0, none⟩) 2 2)), (54, iV 2), (55, iV j), (11, pv (.slice none 0 cp)), (12, pv (.bool false)), (13, .si (.ce (.self 8))), (60, iV 0), (61, iV 0)] ∧ H5.Le H6 ∧ G = bookG d (lgOf h gn ls nr zs) m f 0 lim ++ [strRow done, outRow []]) 1 ?_ ?_
      · refine ⟨0, by omega, _, _, [0, 1, 2, 3, 4, 5, 6, 7, 8], ⟨rfl, rfl, .refl _, rfl⟩, ?_⟩
        exact ⟨rfl, ⟨rfl, rfl, rfl, rfl, rfl, rfl, rfl, rfl, rfl, trivial⟩, rfl, rfl, rfl, rfl, rfl, rfl, rfl, rfl, rfl, rfl, rfl, rfl, trivial⟩
      rintro k' F H6 G hle6 ⟨rfl, rfl, hle6', rfl⟩
      refine codeL.go Tl.tab ?_
      (conv => whnf)
      have h24 : H.Le H6 := ((hle2.trans hle3).trans hle4).trans (hle.trans hle6')
      have hcn := hemp none H6 hle6'
      refine ⟨⟨_, Tryz.func9, rfl, by kernel_rfl⟩, CallS.use hcn [0, 1, 2, 3, 4, 5, 6] rfl rfl ⟨rfl, rfl, rfl, rfl, rfl, rfl, rfl, trivial⟩ ?_⟩
      rintro x H8 G' hle8 ⟨hres, hle8'⟩
      rcases hres with ⟨er, os, h0, ⟨_, hov⟩, _, _⟩ | ⟨hok, rfl, _, rfl⟩ | ⟨hok, _, hxs, _⟩
      · obtain ⟨_, _, hov, _⟩ := hov
        simp at hov
      · (conv => whnf)
        refine ⟨by show (done.length + 0) * 17 ≤ 140737488355328; omega, ?_⟩
        (conv => whnf)
        refine WS.loop (fun k' F H9 G => k' = 0 ∧ F = [(0, pv (.int .i64 lim)), (8, .si (.ce (.ptr 1 0))), (53, pv (.slice (some ⟨g, 0, none⟩) 2 2)), (54, iV 2), (55, iV j), (9, .si (.ce (.self 2))), (137, iV 0), (138, iV 0)] ∧ H8.Le H9 ∧ G = [dataB d, diskB d, strRow done]) 1 ?_ ?_
        · refine ⟨0, by omega, _, _, [0, 1, 10], ⟨rfl, rfl, .refl _, rfl⟩, ?_⟩
          refine ⟨rfl, ⟨rfl, rfl, ?_, trivial⟩, rfl, rfl, rfl, rfl, rfl, rfl, rfl, rfl, trivial⟩
          show SB.row _ _ _ _ = SB.row _ _ _ _
          rw [List.append_nil]
          rfl
        rintro k' F H9 G hle9 ⟨rfl, rfl, hle9', rfl⟩
        refine codeL.go Tl.tab ?_
        (conv => whnf)
        refine ⟨⟨_, Tryz.func10, rfl, by kernel_rfl⟩, CallS.use (again hv (by omega) lim (by omega) (by omega) H9) [0, 1] rfl rfl ⟨rfl, rfl, trivial⟩ ?_⟩
        rintro x H10 G' hle10 ⟨⟨rfl, wr3, nr3, zs3, m3, f3, ht9, hnr3, rfl⟩, hle10'⟩
        (conv => whnf)
        rw [hjw]
        refine ⟨2 - (j + 1), by omega, _, _, [0, 1, 3, 4, 5, 6, 7, 2], ⟨j + 1, Dk.put d d.bs wr3, h, gn, ls, done, nr3, zs3, m3, f3, by omega, (hv.put wr3).more, by omega, hnr3, ht9, rfl, rfl, (((hle.trans hle6').trans hle8).trans hle9').trans hle10, rfl⟩, ?_⟩
        exact ⟨rfl, ⟨rfl, rfl, rfl, rfl, rfl, rfl, rfl, rfl, trivial⟩, rfl, rfl, rfl, rfl, rfl, rfl, rfl, trivial⟩
      · exact absurd rfl hxs
    | some a =>
      refine WS.tell 11 (.slice (some a) 0 cp) rfl ?_
      (conv => whnf)
      refine WS.loop (fun k' F H6 G => k' = 0 ∧ F = [(0, pv (.int .i64 lim)), (7, .si (.ce (.ptr 6 0))), (8, .si (.ce (.ptr 1 0))), (9, .si (.ce (.self 7))), (53, pv (.slice (some ⟨g, 0, none⟩) 2 2)), (54, iV 2), (55, iV j), (11, .si (.ce (.self 9))), (12, pv (.bool false)), (13, .si (.ce (.self 8))), (60, iV 0), (61, iV 0)] ∧ H5.Le H6 ∧ G = bookG d (lgOf h gn ls nr zs) m f 0 lim ++ [strRow done, outRow [], .frz (.slice (some a) 0 cp)]) 1 ?_ ?_
      · refine ⟨0, by omega, _, _, [0, 1, 2, 3, 4, 5, 6, 7, 8, 9], ⟨rfl, rfl, .refl _, rfl⟩, ?_⟩
        exact ⟨rfl, ⟨rfl, rfl, rfl, rfl, rfl, rfl, rfl, rfl, rfl, rfl, trivial⟩, rfl, rfl, rfl, rfl, rfl, rfl, rfl, rfl, rfl, rfl, rfl, rfl, trivial⟩
      rintro k' F H6 G hle6 ⟨rfl, rfl, hle6', rfl⟩
      refine codeL.go Tl.tab ?_
      (conv => whnf)
      have h24 : H.Le H6 := ((hle2.trans hle3).trans hle4).trans (hle.trans hle6')
      have hcn := hemp (some a) H6 hle6'
      refine ⟨⟨_, Tryz.func9, rfl, by kernel_rfl⟩, CallS.told (.cons (.inl rfl) (.cons (.inr ⟨9, _, rfl, rfl, rfl⟩) .nil)) <| CallS.use hcn [0, 1, 2, 3, 4, 5, 6] rfl rfl ⟨rfl, rfl, rfl, rfl, rfl, rfl, rfl, trivial⟩ ?_⟩
      rintro x H8 G' hle8 ⟨hres, hle8'⟩
      rcases hres with ⟨er, os, h0, ⟨_, hov⟩, _, _⟩ | ⟨hok, rfl, _, rfl⟩ | ⟨hok, _, hxs, _⟩
      · obtain ⟨_, _, hov, _⟩ := hov
        simp at hov
      · (conv => whnf)
        refine ⟨by show (done.length + 0) * 17 ≤ 140737488355328; omega, ?_⟩
        (conv => whnf)
        refine WS.loop (fun k' F H9 G => k' = 0 ∧ F = [(0, pv (.int .i64 lim)), (8, .si (.ce (.ptr 1 0))), (53, pv (.slice (some ⟨g, 0, none⟩) 2 2)), (54, iV 2), (55, iV j), (9, .si (.ce (.self 2))), (137, iV 0), (138, iV 0)] ∧ H8.Le H9 ∧ G = [dataB d, diskB d, strRow done]) 1 ?_ ?_
        · refine ⟨0, by omega, _, _, [0, 1, 11], ⟨rfl, rfl, .refl _, rfl⟩, ?_⟩
          refine ⟨rfl, ⟨rfl, rfl, ?_, trivial⟩, rfl, rfl, rfl, rfl, rfl, rfl, rfl, rfl, trivial⟩
          show SB.row _ _ _ _ = SB.row _ _ _ _
          rw [List.append_nil]
          rfl
        rintro k' F H9 G hle9 ⟨rfl, rfl, hle9', rfl⟩
        refine codeL.go Tl.tab ?_
        (conv => whnf)
        refine ⟨⟨_, Tryz.func10, rfl, by kernel_rfl⟩, CallS.use (again hv (by omega) lim (by omega) (by omega) H9) [0, 1] rfl rfl ⟨rfl, rfl, trivial⟩ ?_⟩
        rintro x H10 G' hle10 ⟨⟨rfl, wr3, nr3, zs3, m3, f3, ht9, hnr3, rfl⟩, hle10'⟩
        (conv => whnf)
        rw [hjw]
        refine ⟨2 - (j + 1), by omega, _, _, [0, 1, 3, 4, 5, 6, 7, 2], ⟨j + 1, Dk.put d d.bs wr3, h, gn, ls, done, nr3, zs3, m3, f3, by omega, (hv.put wr3).more, by omega, hnr3, ht9, rfl, rfl, (((hle.trans hle6').trans hle8).trans hle9').trans hle10, rfl⟩, ?_⟩
        exact ⟨rfl, ⟨rfl, rfl, rfl, rfl, rfl, rfl, rfl, rfl, trivial⟩, rfl, rfl, rfl, rfl, rfl, rfl, rfl, trivial⟩
      · exact absurd rfl hxs
  obtain ⟨b, o, rfl, hrd2⟩ := hA.resolve_left hx0
  refine WS.loop (fun k' F H6 G => ∃ (i : Nat), i ≤ xs.length ∧ (∀ x ∈ xs.take i, 1 ≤ x.size ∧ x.size ≤ 40) ∧ k' = xs.length - i ∧
      F = [(0, pv (.int .i64 lim)), (7, .si (.ce (.ptr 6 0))), (8, .si (.ce (.ptr 1 0))), (9, .si (.ce (.self 7))), (53, pv (.slice (some ⟨g, 0, none⟩) 2 2)), (54, iV 2), (55, iV j), (11, pv (.slice (some ⟨b, o, none⟩) xs.length cp)), (12, pv (.bool (ovL lim done (xs.take i)))), (13, .si (.ce (.self 8))), (59, pv (.slice (some ⟨b, o, none⟩) xs.length cp)), (60, iV xs.length), (61, iV i)] ∧ H5.Le H6 ∧ G = bookG d (lgOf h gn ls nr zs) m f 0 lim ++ [strRow done, outRow (outL done (xs.take i))]) (xs.length + 1) ?_ ?_
  · refine ⟨xs.length, by omega, _, _, [0, 1, 2, 3, 4, 5, 6, 7, 8], ⟨0, by omega, fun x hx => by simp at hx, rfl, rfl, .refl _, rfl⟩, ?_⟩
    exact ⟨rfl, ⟨rfl, rfl, rfl, rfl, rfl, rfl, rfl, rfl, rfl, trivial⟩, rfl, rfl, rfl, rfl, rfl, rfl, rfl, rfl, rfl, rfl, rfl, rfl, rfl, trivial⟩
  rintro k' F H6 G hle6 ⟨i, hi, hval, rfl, rfl, hle6', rfl⟩
  refine codeL.go Tl.tab ?_
  (conv => whnf)
  refine br.of (fun h1 => ?_) (fun h1 => ?_) <;> (conv => whnf)
  · have h1 := of_decide_eq_true h1
    have hil : i < xs.length := by omega
    have hget : xs[i]? = some xs[i] := List.getElem?_eq_getElem hil
    generalize xs[i] = c at hget
    refine ⟨⟨by omega, by omega⟩, ⟨_, _, rfl⟩, ?_⟩
    (conv => whnf)
    refine ⟨.string c, ⟨b, o, rfl, ?_⟩, ?_⟩
    · obtain ⟨_, _, e, hr2⟩ := hrd2
      injection e with e; injection e with e1 e2; subst e1 e2
      have := hr2 i (.string c) (by rw [List.getElem?_map, hget]; rfl)
      show H6 _ (_ + (i : Int).toNat * 1) = _
      rw [show (i : Int).toNat * 1 = i by omega]
      exact (((hle2.trans hle3).trans hle4).trans (hle.trans hle6')) _ _ _ (by simpa using this)
    (conv => whnf)
    refine WS.draw Tl.tab Tl.mixed (.take 1 (.take 3 (.take 4 (.take 5 (.take 8 (.alt 0 (.alt 2 (.alt 6 (.alt 7 .done .no) .no) .no) .no)))))) (by kernel_rfl) [] ?_
    (conv => whnf)
    refine ⟨⟨by omega, by omega, by omega⟩, ?_⟩
    (conv => whnf)
    refine And.intro ?_ ?_ <;> (conv => whnf)
    rotate_left
    · exact trivial
    refine ⟨by decide, .inr ?_⟩
    (conv => whnf)
    refine ⟨rfl, ?_⟩
    (conv => whnf)
    refine ⟨⟨rfl, rfl, rfl, rfl, rfl, rfl, rfl, rfl, rfl, trivial⟩, ?_⟩
    (conv => whnf)
    refine And.intro ?_ ?_ <;> (conv => whnf)
    rotate_left
    · exact trivial
    refine ⟨fun u hu => by obtain ⟨y, _, rfl⟩ := List.mem_map.1 hu; rfl, ?_⟩
    (conv => whnf)
    refine ⟨by show (0 + done.length) * 17 ≤ 140737488355328; omega, ?_⟩
    (conv => whnf)
    refine ⟨by repeat' (first | exact trivial | exact rfl | refine And.intro ?_ ?_), ?_⟩
    (conv => whnf)
    refine And.intro ?_ ?_ <;> (conv => whnf)
    rotate_left
    · exact trivial
    have hsub : ∀ z, subA (some ⟨b, o, none⟩) cp (Int.toNat 0) z = some ⟨b, o, none⟩ := fun z => by
      unfold subA
      split
      · rfl
      · show some (Addr.add ⟨b, o, none⟩ (0 * z)) = _
        rw [Nat.zero_mul, Addr.add_lit]
        rfl
    rw [hsub]
    have hrdi : RdN H6 (some ⟨b, o, none⟩) 0 ((xs.take i).map .string) := by
      refine ⟨b, o, rfl, fun q x hq => ?_⟩
      obtain ⟨_, _, e, hr2⟩ := hrd2
      injection e with e; injection e with e1 e2; subst e1 e2
      refine (((hle2.trans hle3).trans hle4).trans (hle.trans hle6')) _ _ _ (hr2 q x ?_)
      rw [List.getElem?_map] at hq ⊢
      rw [← hq]
      have hqi : q < i := by
        have := hq
        rcases Nat.lt_or_ge q i with h | h
        · exact h
        · rw [List.getElem?_eq_none (by rw [List.length_take]; omega)] at this; cases this
      rw [List.getElem?_take_of_lt hqi]
    refine ⟨(xs.take i).map .string, by rw [List.length_map, List.length_take]; show min i xs.length = ((i : Int).toNat - Int.toNat 0) * 1; have : ((i : Int).toNat - Int.toNat 0) = i := by show (i : Int).toNat - 0 = i; omega
                                        rw [this]; omega, hrdi, fun u hu => by obtain ⟨y, _, rfl⟩ := List.mem_map.1 hu; rfl, ?_⟩
    (conv => whnf)
    refine ⟨by show (0 + done.length + ((i : Int).toNat - 0)) * 17 ≤ 140737488355328; omega, ?_⟩
    (conv => whnf)
    refine ⟨by repeat' (first | exact trivial | exact rfl | refine And.intro ?_ ?_), ?_⟩
    (conv => whnf)
    refine And.intro ?_ ?_ <;> (conv => whnf)
    rotate_left
    · exact trivial
    refine ⟨by repeat' (first | exact trivial | exact rfl | refine And.intro ?_ ?_), ?_⟩
    (conv => whnf)
    have htl : (xs.take i).length = i := by rw [List.length_take]; omega
    obtain ⟨ys, hys⟩ : ∃ ys, ys = done ++ xs.take i := ⟨_, rfl⟩
    have hyl : ys.length = done.length + i := by rw [hys, List.length_append, htl]
    refine WS.loop (fun k' F H7 G => ∃ (q : Nat), q ≤ ys.length ∧ k' = ys.length - q ∧
      F = [(0, pv (.int .i64 lim)), (7, .si (.ce (.ptr 6 0))), (8, .si (.ce (.ptr 1 0))), (9, .si (.ce (.self 7))), (53, pv (.slice (some ⟨g, 0, none⟩) 2 2)), (54, iV 2), (55, iV j), (11, pv (.slice (some ⟨b, o, none⟩) xs.length cp)), (12, pv (.bool (ovL lim done (xs.take i)))), (13, .si (.ce (.self 8))), (59, pv (.slice (some ⟨b, o, none⟩) xs.length cp)), (60, iV xs.length), (61, iV i),
        (14, iV i), (15, pv (.string c)), (16, iV (cntN (ys.take q) c + 1)), (72, .si (.ce (.self 9))), (73, iV ys.length), (74, iV q)] ∧ H6.Le H7 ∧ G = bookG d (lgOf h gn ls nr zs) m f 0 lim ++ [strRow done, outRow (outL done (xs.take i)), strRow ys]) (ys.length + 1) ?_ ?_
    · refine ⟨ys.length, by omega, _, _, [0, 1, 2, 3, 4, 5, 6, 7, 8, 11], ⟨0, by omega, rfl, rfl, .refl _, rfl⟩, ?_⟩
      have ez : (0 + done.length + ((i : Int).toNat - Int.toNat 0)) = ys.length := by rw [hyl]; show 0 + done.length + ((i : Int).toNat - 0) = _; omega
      have er : SB.row 9 1 (0 + done.length + ((i : Int).toNat - Int.toNat 0)) ([] ++ done.map Value.string ++ (xs.take i).map Value.string) = strRow ys := by
        rw [ez, List.nil_append, ← List.map_append, ← hys]
        rfl
      rw [show ys.length = 0 + done.length + ((i : Int).toNat - Int.toNat 0) from ez.symm, ← er]
      exact ⟨rfl, ⟨rfl, rfl, rfl, rfl, rfl, rfl, rfl, rfl, rfl, rfl, trivial⟩, rfl, rfl, rfl, rfl, rfl, rfl, rfl, rfl, rfl, rfl, rfl, rfl, rfl, rfl, rfl, rfl, rfl, rfl, rfl, trivial⟩
    rintro k' F H7 G hle7 ⟨q, hq, rfl, rfl, hle7', rfl⟩
    refine codeL.go Tl.tab ?_
    (conv => whnf)
    refine br.of (fun h5 => ?_) (fun h5 => ?_) <;> (conv => whnf)
    · have h5 := of_decide_eq_true h5
      have hql : q < ys.length := by omega
      have hgy : ys[q]? = some ys[q] := List.getElem?_eq_getElem hql
      generalize ys[q] = y at hgy
      refine ⟨⟨by omega, by omega⟩, ?_⟩
      (conv => whnf)
      refine ⟨.string y, by
        show (ys.map Value.string)[(q : Int).toNat * 1]? = _
        rw [show (q : Int).toNat * 1 = q by omega, List.getElem?_map, hgy]
        rfl, ?_⟩
      (conv => whnf)
      have hnx : cntN (ys.take (q + 1)) c = cntN (ys.take q) c + if y = c then 1 else 0 := by rw [List.take_add_one, hgy, Option.toList_some, cntN_snoc]
      have hcq := cntN_le (ys.take q) c
      rw [List.length_take] at hcq
      have hqw : IntKind.i64.wrap ((q : Int) + 1) = ((q + 1 : Nat) : Int) := by rw [wrap64 (by omega) (by omega)]; omega
      by_cases hyc : y = c
      · rw [strEq_iff.2 hyc]
        (conv => whnf)
        have hcw : IntKind.i64.wrap (((cntN (ys.take q) c + 1 : Nat) : Int) + 1) = ((cntN (ys.take (q + 1)) c + 1 : Nat) : Int) := by rw [hnx, if_pos hyc, wrap64 (by omega) (by omega)]; omega
        rw [hcw, hqw]
        refine ⟨ys.length - (q + 1), by omega, _, _, [0, 1, 2, 3, 4, 5, 6, 7, 8, 9], ⟨q + 1, by omega, rfl, rfl, hle7', rfl⟩, ?_⟩
        exact ⟨rfl, ⟨rfl, rfl, rfl, rfl, rfl, rfl, rfl, rfl, rfl, rfl, trivial⟩, rfl, rfl, rfl, rfl, rfl, rfl, rfl, rfl, rfl, rfl, rfl, rfl, rfl, rfl, rfl, rfl, rfl, rfl, rfl, trivial⟩
      · rw [show strEq y c = false from strEq_false.2 hyc]
        (conv => whnf)
        rw [hqw]
        have hcs : cntN (ys.take q) c = cntN (ys.take (q + 1)) c := by rw [hnx, if_neg hyc]; rfl
        rw [hcs]
        refine ⟨ys.length - (q + 1), by omega, _, _, [0, 1, 2, 3, 4, 5, 6, 7, 8, 9], ⟨q + 1, by omega, rfl, rfl, hle7', rfl⟩, ?_⟩
        exact ⟨rfl, ⟨rfl, rfl, rfl, rfl, rfl, rfl, rfl, rfl, rfl, rfl, trivial⟩, rfl, rfl, rfl, rfl, rfl, rfl, rfl, rfl, rfl, rfl, rfl, rfl, rfl, rfl, rfl, rfl, rfl, rfl, rfl, trivial⟩
    · have hsb : ∀ z, subA (some ⟨b, o, none⟩) cp (i : Int).toNat z = some ⟨b, o + i * z, none⟩ := fun z => by
        unfold subA
        rw [if_neg (by omega)]
        show some (Addr.add ⟨b, o, none⟩ ((i : Int).toNat * z)) = _
        rw [Addr.add_lit, show (i : Int).toNat = i by omega]
      have hbad : ¬ (1 ≤ c.size ∧ c.size ≤ 40) → ∀ (cq : Nat) (H8 : Hp), H6.Le H8 → CallO Tryz.prog 9 [bP, pv (.slice (some ⟨b, o + i * 1, none⟩) 1 cq)] H8 (bookG d (lgOf h gn ls nr zs) m f 0 lim) fun x H' G' => ROut False (fun er => er = 10) d (lgOf h gn ls nr zs) m f 0 lim (tnOf ls) done [] x H' G' ∧ H8.Le H' := fun hc cq H8 hl8 =>
        cntOut False (fun er => er = 10) d (lgOf h gn ls nr zs) hv.fine rfl hv.store.half (by show gn < _; omega) (by show nr ≤ _; omega) m f 0 (by decide) lim (tnOf ls) done [] (by decide) (fun p hp => by simp [stL] at hp) (Nat.zero_le _) (by show 16 + costs (ls.map recS) + (9 + 0) ≤ _; rw [hv.len]; omega) (some ⟨b, o + i * 1, none⟩) 1 cq H8 fun H9 hl9 =>
          countedBad c hc done (some ⟨b, o + i * 1, none⟩) cq ⟨d, lgOf h gn ls nr zs, m, f, 0, m, f, [], 0, false, lim⟩ rfl rfl (tnOf ls) H9 (.inr ⟨b, o + i * 1, rfl, b, o + i * 1, rfl, fun q x hq => by
            cases q with
            | succ q => simp at hq
            | zero =>
              obtain ⟨_, _, e, hr2⟩ := hrd2
              injection e with e; injection e with e1 e2; subst e1 e2
              have := ((((hle2.trans hle3).trans hle4).trans (hle.trans hle6')).trans (hl8.trans hl9)) _ _ _ (hr2 i (.string c) (by rw [List.getElem?_map, hget]; rfl))
              obtain rfl : Value.string c = x := Option.some.inj hq
              simpa using this⟩)
      by_cases h6 : ((c.size : Nat) : Int) < 1
      · rw [decide_eq_true h6]
        (conv => whnf)
        rw [show IntKind.i64.wrap ((i : Int) + 1) = ((i + 1 : Nat) : Int) by rw [wrap64 (by omega) (by omega)]; omega]
        refine ⟨⟨by omega, by omega, by omega⟩, ?_⟩
        (conv => whnf)
        rw [hsb, show ((i + 1 : Nat) : Int).toNat - (i : Int).toNat = 1 by omega]
        refine ⟨⟨_, Tryz.func9, rfl, by kernel_rfl⟩, CallS.use (hbad (by omega) _ H7 hle7') [0, 1, 2, 3, 4, 5, 6] rfl rfl ⟨rfl, rfl, rfl, rfl, rfl, rfl, rfl, trivial⟩ ?_⟩
        rintro x H8 G' hle8 ⟨hres, hle8'⟩
        rcases hres with ⟨er, os, h0, rfl, rfl, rfl⟩ | ⟨hf, _⟩ | ⟨hf, _⟩
        · (conv => whnf)
          rfl
        · exact hf.elim
        · exact hf.elim
      · rw [decide_eq_false h6]
        (conv => whnf)
        by_cases h7 : ((c.size : Nat) : Int) > 40
        · rw [decide_eq_true h7]
          (conv => whnf)
          rw [show IntKind.i64.wrap ((i : Int) + 1) = ((i + 1 : Nat) : Int) by rw [wrap64 (by omega) (by omega)]; omega]
          refine ⟨⟨by omega, by omega, by omega⟩, ?_⟩
          (conv => whnf)
          rw [hsb, show ((i + 1 : Nat) : Int).toNat - (i : Int).toNat = 1 by omega]
          refine ⟨⟨_, Tryz.func9, rfl, by kernel_rfl⟩, CallS.use (hbad (by omega) _ H7 hle7') [0, 1, 2, 3, 4, 5, 6] rfl rfl ⟨rfl, rfl, rfl, rfl, rfl, rfl, rfl, trivial⟩ ?_⟩
          rintro x H8 G' hle8 ⟨hres, hle8'⟩
          rcases hres with ⟨er, os, h0, rfl, rfl, rfl⟩ | ⟨hf, _⟩ | ⟨hf, _⟩
          · (conv => whnf)
            rfl
          · exact hf.elim
          · exact hf.elim
        · rw [decide_eq_false h7]
          (conv => whnf)
          have h5 := of_decide_eq_false h5
          obtain rfl : q = ys.length := by omega
          rw [List.take_length]
          have hov : ovL lim done (xs.take (i + 1)) = (ovL lim done (xs.take i) || decide (((cntN ys c + 1 : Nat) : Int) > lim)) := by rw [List.take_add_one, hget, Option.toList_some, ovL_snoc, hys]
          have hou : outL done (xs.take (i + 1)) = outL done (xs.take i) ++ [((cntN ys c + 1 : Nat) : Int)] := by rw [List.take_add_one, hget, Option.toList_some, outL_snoc, hys]
          generalize ovL lim done (xs.take i) = ob at hov
          have hval2 : ∀ x ∈ xs.take (i + 1), 1 ≤ x.size ∧ x.size ≤ 40 := fun x hx => by
            rw [List.take_add_one, hget, Option.toList_some] at hx
            rcases List.mem_append.1 hx with hx | hx
            · exact hval x hx
            · simp at hx; subst hx; omega
          cases ob
          · (conv => whnf)
            refine ⟨by decide, .inl ?_⟩
            intro g2 H8 hle8 hrd8
            (conv => whnf)
            refine ⟨[.int .i64 ((cntN ys c + 1 : Nat) : Int)], rfl, hrd8, fun u hu => by simp at hu; subst hu; rfl, ?_⟩
            (conv => whnf)
            have hol : (outL done (xs.take i)).length = i := by rw [outL_len, htl]
            refine ⟨by show ((outL done (xs.take i)).length + 1) * 9 ≤ 140737488355328; omega, ?_⟩
            (conv => whnf)
            rw [show IntKind.i64.wrap ((i : Int) + 1) = ((i + 1 : Nat) : Int) by rw [wrap64 (by omega) (by omega)]; omega]
            refine ⟨xs.length - (i + 1), by omega, _, bookG d (lgOf h gn ls nr zs) m f 0 lim ++ [strRow done, outRow (outL done (xs.take (i + 1)))], [0, 1, 2, 3, 4, 5, 6, 7, 10], ⟨i + 1, by omega, hval2, rfl, rfl, hle6'.trans (hle7'.trans hle8), rfl⟩, ?_⟩
            rw [hov]
            refine ⟨rfl, ⟨rfl, rfl, rfl, rfl, rfl, rfl, rfl, rfl, ?_, trivial⟩, rfl, rfl, rfl, rfl, rfl, rfl, rfl, rfl, rfl, rfl, rfl, rfl, rfl, trivial⟩
            rw [hou]
            unfold outRow
            rw [List.length_append, List.map_append]
            exact rfl
          · (conv => whnf)
            refine ⟨by decide, .inl ?_⟩
            intro g2 H8 hle8 hrd8
            (conv => whnf)
            refine ⟨[.int .i64 ((cntN ys c + 1 : Nat) : Int)], rfl, hrd8, fun u hu => by simp at hu; subst hu; rfl, ?_⟩
            (conv => whnf)
            have hol : (outL done (xs.take i)).length = i := by rw [outL_len, htl]
            refine ⟨by show ((outL done (xs.take i)).length + 1) * 9 ≤ 140737488355328; omega, ?_⟩
            (conv => whnf)
            rw [show IntKind.i64.wrap ((i : Int) + 1) = ((i + 1 : Nat) : Int) by rw [wrap64 (by omega) (by omega)]; omega]
            refine ⟨xs.length - (i + 1), by omega, _, bookG d (lgOf h gn ls nr zs) m f 0 lim ++ [strRow done, outRow (outL done (xs.take (i + 1)))], [0, 1, 2, 3, 4, 5, 6, 7, 10], ⟨i + 1, by omega, hval2, rfl, rfl, hle6'.trans (hle7'.trans hle8), rfl⟩, ?_⟩
            rw [hov]
            refine ⟨rfl, ⟨rfl, rfl, rfl, rfl, rfl, rfl, rfl, rfl, ?_, trivial⟩, rfl, rfl, rfl, rfl, rfl, rfl, rfl, rfl, rfl, rfl, rfl, rfl, rfl, trivial⟩
            rw [hou]
            unfold outRow
            rw [List.length_append, List.map_append]
            exact rfl
  · have h1 := of_decide_eq_false h1
    obtain rfl : i = xs.length := by omega
    rw [List.take_length] at *
    have hst := stL_right xs done (fun x hx => (hval x hx).2) (by omega)
    have h24 : H.Le H6 := ((hle2.trans hle3).trans hle4).trans (hle.trans hle6')
    have hcn := cntOut (¬ Over lim done xs) (fun er => er = 14 ∧ Over lim done xs) d (lgOf h gn ls nr zs) hv.fine rfl hv.store.half (by show gn < _; omega) (by show nr ≤ _; omega) m f 0 (by decide) lim (tnOf ls) done xs (by omega) hst.1 (by have := hst.2; omega) (by show 16 + costs (ls.map recS) + (9 + _) ≤ _; rw [hv.len]; have := hst.2; omega) (some ⟨b, o, none⟩) xs.length cp H6 fun H9 hl9 =>
      counted_ done xs hval (by omega) (by omega) (some ⟨b, o, none⟩) cp ⟨d, lgOf h gn ls nr zs, m, f, 0, m, f, [], 0, false, lim⟩ rfl rfl (tnOf ls) hv.inv H9 (hE.mono (h24.trans hl9)) (.inr ⟨b, o, rfl, hrd2.mono (h24.trans hl9)⟩) (ht5.mono (hle6'.trans hl9))
    refine ⟨⟨_, Tryz.func9, rfl, by kernel_rfl⟩, CallS.use hcn [0, 1, 2, 3, 4, 5, 6] rfl rfl ⟨rfl, rfl, rfl, rfl, rfl, rfl, rfl, trivial⟩ ?_⟩
    rintro x H8 G' hle8 ⟨hres, hle8'⟩
    rcases hres with ⟨er, os, h0, ⟨rfl, hov⟩, rfl, rfl⟩ | ⟨hok, _, hxs, _⟩ | ⟨hok, rfl, hxs, n3, f3, wr2, zs2, ht8, rfl⟩
    · rw [(over_iff lim xs done).2 hov]
      (conv => whnf)
      refine ⟨⟨_, Tryz.func10, rfl, by kernel_rfl⟩, CallS.use (again hv (by omega) lim (by omega) (by omega) H8) [0, 1] rfl rfl ⟨rfl, rfl, trivial⟩ ?_⟩
      rintro x H9 G' hle9 ⟨⟨rfl, wr3, nr3, zs3, m3, f3, ht9, hnr3, rfl⟩, hle9'⟩
      (conv => whnf)
      rw [hjw]
      refine ⟨2 - (j + 1), by omega, _, _, [0, 1, 10, 11, 12, 13, 14, 7], ⟨j + 1, Dk.put d d.bs wr3, h, gn, ls, done, nr3, zs3, m3, f3, by omega, (hv.put wr3).more, by omega, hnr3, ht9, rfl, rfl, ((hle.trans hle6').trans hle8).trans hle9, rfl⟩, ?_⟩
      exact ⟨rfl, ⟨rfl, rfl, rfl, rfl, rfl, rfl, rfl, rfl, trivial⟩, rfl, rfl, rfl, rfl, rfl, rfl, rfl, trivial⟩
    · exact absurd hxs hx0
    · rw [show ovL lim done xs = false from Bool.eq_false_iff.2 fun e => hok ((over_iff lim xs done).1 e)]
      (conv => whnf)
      refine ⟨xs.map .string, by rw [List.length_map]; exact (Nat.mul_one _).symm, hrd2.mono (h24.trans hle8), fun u hu => by obtain ⟨y, _, rfl⟩ := List.mem_map.1 hu; rfl, ?_⟩
      (conv => whnf)
      refine ⟨by show (done.length + xs.length) * 17 ≤ 140737488355328; omega, ?_⟩
      (conv => whnf)
      have e1 : ((((outL done xs).length : Nat) : Int) != (((outL done xs).length : Nat) : Int)) = false := by simp
      rw [e1]
      (conv => whnf)
      have hv2 : Lv (Dk.put d (addB d.bs (lgOf h gn ls nr zs).half (lgOf h gn ls nr zs).gen (lgOf h gn ls nr zs).fin (recS (stL done xs))) wr2) h gn (ls ++ [stL done xs]) (done ++ xs) (j + 1) := hv.commit (fun x hx => (hval x hx).2) hx20 hx0 (by omega) (by omega) wr2
      generalize Dk.put d (addB d.bs (lgOf h gn ls nr zs).half (lgOf h gn ls nr zs).gen (lgOf h gn ls nr zs).fin (recS (stL done xs))) wr2 = d2 at hv2
      have hol : (outL done xs).length = xs.length := outL_len xs done
      generalize outL done xs = os at hol
      refine WS.loop (fun k' F H9 G => ∃ (q : Nat), q ≤ os.length ∧ k' = os.length - q ∧ F = [(0, pv (.int .i64 lim)), (8, .si (.ce (.ptr 1 0))), (53, pv (.slice (some ⟨g, 0, none⟩) 2 2)), (54, iV 2), (55, iV j), (9, .si (.ce (.self 4))), (21, .si (.ce (.self 3))), (136, .si (.ce (.self 2))), (137, iV os.length), (138, iV q)] ∧ H8.Le H9 ∧ G = [dataB d2, diskB d2, outRow os, outRow os, strRow (done ++ xs)]) (os.length + 1) ?_ ?_
      · refine ⟨os.length, by omega, _, _, [0, 1, 8, 9, 12], ⟨0, by omega, rfl, rfl, .refl _, rfl⟩, ?_⟩
        refine ⟨rfl, ⟨rfl, rfl, rfl, rfl, ?_, trivial⟩, rfl, rfl, rfl, rfl, rfl, rfl, rfl, rfl, rfl, rfl, trivial⟩
        unfold strRow
        rw [List.length_append, List.map_append]
        exact rfl
      rintro k' F H9 G hle9 ⟨q, hq, rfl, rfl, hle9', rfl⟩
      refine codeL.go Tl.tab ?_
      (conv => whnf)
      refine br.of (fun h5 => ?_) (fun h5 => ?_) <;> (conv => whnf)
      · have h5 := of_decide_eq_true h5
        have hql : q < os.length := by omega
        have hgo : os[q]? = some os[q] := List.getElem?_eq_getElem hql
        generalize os[q] = v at hgo
        have hgv : (os.map (Value.int .i64 ·))[(q : Int).toNat * 1]? = some (.int .i64 v) := by
          rw [show (q : Int).toNat * 1 = q by omega, List.getElem?_map, hgo]
          rfl
        refine ⟨⟨by omega, by omega⟩, ?_⟩
        (conv => whnf)
        refine ⟨.int .i64 v, hgv, ?_⟩
        (conv => whnf)
        refine ⟨⟨by omega, by omega⟩, ?_⟩
        (conv => whnf)
        refine ⟨.int .i64 v, hgv, ?_⟩
        (conv => whnf)
        rw [show (v != v) = false by simp]
        (conv => whnf)
        rw [show IntKind.i64.wrap ((q : Int) + 1) = ((q + 1 : Nat) : Int) by rw [wrap64 (by omega) (by omega)]; omega]
        refine ⟨os.length - (q + 1), by omega, _, _, [0, 1, 2, 3, 4], ⟨q + 1, by omega, rfl, rfl, hle9', rfl⟩, ?_⟩
        exact ⟨rfl, ⟨rfl, rfl, rfl, rfl, rfl, trivial⟩, rfl, rfl, rfl, rfl, rfl, rfl, rfl, rfl, rfl, rfl, trivial⟩
      · refine ⟨⟨_, Tryz.func10, rfl, by kernel_rfl⟩, CallS.use (again hv2 (by omega) lim (by omega) (by omega) H9) [0, 1] rfl rfl ⟨rfl, rfl, trivial⟩ ?_⟩
        rintro x H10 G' hle10 ⟨⟨rfl, wr3, nr3, zs3, m3, f4, ht9, hnr3, rfl⟩, hle10'⟩
        (conv => whnf)
        rw [hjw]
        refine ⟨2 - (j + 1), by omega, _, _, [0, 1, 5, 6, 7, 8, 9, 4], ⟨j + 1, Dk.put d2 d2.bs wr3, h, gn, _, done ++ xs, nr3, zs3, m3, f4, by omega, hv2.put wr3, by rw [List.length_append]; omega, hnr3, ht9, rfl, rfl, (((hle.trans hle6').trans hle8).trans hle9').trans hle10, rfl⟩, ?_⟩
        exact ⟨rfl, ⟨rfl, rfl, rfl, rfl, rfl, rfl, rfl, rfl, trivial⟩, rfl, rfl, rfl, rfl, rfl, rfl, rfl, trivial⟩
end Go.Kx.L17
