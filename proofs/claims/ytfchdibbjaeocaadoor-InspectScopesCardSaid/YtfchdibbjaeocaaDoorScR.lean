/- Scope texts: what is read of a text of scopes; the statement. No condition of its own. -/
import Derived.Test.YtfchdibbjaeocaaDoorScJ
namespace Go.Kx.Sco
open Go.Proofs Go.Kx Go.RowKit Go.Sort Go.Kx.Bu
set_option maxRecDepth 20000
set_option linter.unusedSimpArgs false
theorem partsL_run (c : UInt8) : ∀ (x cur t : List UInt8), c ∉ x → partsL c cur (x ++ t) = partsL c (cur ++ x) t
  | [], cur, t, _ => by simp
  | a :: x, cur, t, h => by
    have ha : ¬ a = c := fun e => h (by simp [e])
    have hx : c ∉ x := fun e => h (List.mem_cons_of_mem _ e)
    rw [List.cons_append, partsL, if_neg ha, partsL_run c x (cur ++ [a]) t hx, List.append_assoc]; rfl
theorem partsL_join (c : UInt8) : ∀ (r : List (List UInt8)) (x : List UInt8), c ∉ x → (∀ y ∈ r, c ∉ y) → partsL c [] (x ++ r.flatMap fun y => c :: y) = x :: r
  | [], x, hx, _ => by rw [List.flatMap_nil, partsL_run c x [] [] hx]; simp [partsL]
  | y :: r, x, hx, h => by
    rw [List.flatMap_cons, partsL_run c x [] _ hx, List.nil_append, List.cons_append, partsL, if_pos rfl, partsL_join c r y (h y (by simp)) (fun z hz => h z (List.mem_cons_of_mem _ hz))]
theorem name_facts {l : List UInt8} (h : RefN.isName ⟨l.toArray⟩ = true) : 32 ∉ l ∧ 1 ≤ l.length ∧ l.length ≤ 40 := by
  unfold RefN.isName at h
  simp only [Bool.and_eq_true, decide_eq_true_eq, List.all_eq_true] at h
  have hs : (⟨l.toArray⟩ : ByteArray).size = l.length := by show l.toArray.size = _; rw [List.size_toArray]
  rw [hs] at h
  refine ⟨fun hm => ?_, h.2.1, h.2.2⟩
  have := h.1 32 (by simpa using hm)
  exact absurd this (by decide)
theorem prog_facts {s : ByteArray} {L : List (List UInt8)} (h : Pg.progS s = some L) : Pg.allN L = true ∧ Up L ∧ L.length ≤ 8 := by
  unfold Pg.progS at h
  split at h
  · injection h with h; subst h; exact ⟨rfl, List.Pairwise.nil, by simp⟩
  split at h
  · rename_i ha
    split at h
    · cases h
    · injection h with h
      obtain ⟨h1, h2⟩ := uniq_up (partsL 32 [] s.data.toList)
      subst h
      refine ⟨?_, h1, by omega⟩
      unfold Pg.allN at ha ⊢
      rw [List.all_eq_true] at ha ⊢
      exact fun x hx => ha x ((h2 x).1 hx)
  · cases h
theorem back {s : ByteArray} {L : List (List UInt8)} (h : Pg.progS s = some L) : Pg.progS (sL (jnP L)) = some L := by
  obtain ⟨ha, hu, hl⟩ := prog_facts h
  cases L with
  | nil => rfl
  | cons x r =>
    have hn : ∀ y ∈ x :: r, 32 ∉ y ∧ 1 ≤ y.length ∧ y.length ≤ 40 := fun y hy => name_facts (List.all_eq_true.1 ha y hy)
    have hx := hn x (by simp)
    have hp : partsL 32 [] (sL (jnP (x :: r))).data.toList = x :: r := by
      rw [sL_list, jnP]
      exact partsL_join 32 r x hx.1 fun y hy => (hn y (List.mem_cons_of_mem _ hy)).1
    have hne : (sL (jnP (x :: r))).data.toList ≠ [] := by
      rw [sL_list, jnP]
      intro e
      have := congrArg List.length e
      rw [List.length_append] at this
      simp only [List.length_nil] at this
      omega
    have hq : Pg.uniqL (x :: r) = x :: r := by
      obtain ⟨h1, h2⟩ := uniq_up (x :: r)
      exact Up.ext h1 hu h2
    unfold Pg.progS
    rw [if_neg hne, hp, ha, hq]
    simp only [if_true]
    rw [if_neg (by omega)]
namespace Pg
theorem scope_ (L : List (List UInt8)) (hL : L.length ≤ 8) (hx : ∀ l ∈ L, l.length ≤ 10000) (B : Option Addr) (m c : Nat) (hc : m ≤ c) (H : Hp) (hv : VAt H B m (stC L)) :
    CallO Tryd.prog 18 [pv (.slice B m c)] H [] fun e H' G' => e = .ret (pv (.string (sL (jnP L)))) ∧ H.Le H' ∧ G' = [] := by
  have hm : m = L.length := by have := hv.1; rw [stC_len] at this; exact this
  subst hm
  refine CallO.of_body tab Tryd.func18 rfl (nt := Tryd.f18.ntmps) rfl (by kernel_rfl) ?_
  (conv => whnf)
  refine ⟨⟨_, Tryd.func35, rfl, by kernel_rfl⟩, CallS.use (join_ L hL hx B c hc H hv) [] rfl rfl trivial ?_⟩
  rintro e H1 G' hle1 ⟨rfl, hl1, rfl⟩
  (conv => whnf)
  exact ⟨rfl, hl1, rfl⟩
theorem anchor_ (H : Hp) : CallO Tryd.prog 15 [] H [] fun e H' G' => e = .ret (pv (.bool true)) ∧ H.Le H' ∧ G' = [] := by
  have a1 : progS ⟨#[98, 32, 97, 32, 98]⟩ = some [[97], [98]] := by rw [same]; decide +kernel
  have a2 : progS ⟨#[97, 32, 32, 98]⟩ = none := by rw [same]; decide +kernel
  refine CallO.of_body tab Tryd.func15 rfl (nt := Tryd.f15.ntmps) rfl (by kernel_rfl) ?_
  (conv => whnf)
  refine ⟨⟨_, Tryd.func16, rfl, by kernel_rfl⟩, CallS.use (scopes_ ⟨#[98, 32, 97, 32, 98]⟩ (by decide) H) [] rfl rfl trivial ?_⟩
  rintro e H1 G' hle1 ⟨hr, rfl⟩
  rcases hr with ⟨h1, _⟩ | ⟨L, B, m, c, h1, rfl, hv, hmc⟩
  · rw [a1] at h1; cases h1
  rw [a1] at h1
  injection h1 with h1
  subst h1
  have hm : m = 2 := hv.1
  subst hm
  (conv => whnf)
  refine ⟨⟨_, Tryd.func16, rfl, by kernel_rfl⟩, CallS.use (scopes_ ⟨#[97, 32, 32, 98]⟩ (by decide) H1) [] rfl rfl trivial ?_⟩
  rintro e H2 G' hle2 ⟨hr, rfl⟩
  rcases hr with ⟨h2, rfl⟩ | ⟨L, B2, m2, c2, h2, _⟩
  · (conv => whnf)
    have hv2 := hv.mono hle2
    have hadr := hv2.addr (by decide)
    have g0 : RdC H2 B ((0 : Int).toNat * 1) (.string ⟨#[97]⟩) := hv2.get (i := 0) rfl rfl
    have g1 : RdC H2 B ((1 : Int).toNat * 1) (.string ⟨#[98]⟩) := hv2.get (i := 1) rfl rfl
    refine ⟨⟨by omega, by omega⟩, hadr, ?_⟩
    (conv => whnf)
    refine ⟨_, g0, ?_⟩
    (conv => whnf)
    refine ⟨⟨by omega, by omega⟩, hadr, ?_⟩
    (conv => whnf)
    refine ⟨_, g1, ?_⟩
    (conv => whnf)
    refine ⟨⟨_, Tryd.func18, rfl, by kernel_rfl⟩, CallS.use (scope_ [[97], [98]] (by decide) (by decide) B 2 c hmc H2 hv2) [] rfl rfl trivial ?_⟩
    rintro e H3 G' hle3 ⟨rfl, hl3, rfl⟩
    (conv => whnf)
    exact ⟨rfl, hle1.trans (hle2.trans hl3), rfl⟩
  · rw [a2] at h2; cases h2
theorem law_ (s : ByteArray) (H : Hp) : CallO Tryd.prog 5 [pv (.string s)] H [] fun e H' G' => e = .ret (pv (.bool true)) ∧ H.Le H' ∧ G' = [] := by
  refine CallO.of_body tab Tryd.func5 rfl (nt := Tryd.f5.ntmps) rfl (by kernel_rfl) ?_
  (conv => whnf)
  refine ⟨⟨_, Tryd.func15, rfl, by kernel_rfl⟩, CallS.use (anchor_ H) [] rfl rfl trivial ?_⟩
  rintro e H0 G' hle0 ⟨rfl, hl0, rfl⟩
  (conv => whnf)
  refine br.of (fun h1 => ?_) (fun h1 => ?_) <;> (conv => whnf)
  · exact ⟨rfl, hl0, rfl⟩
  have h1 := of_decide_eq_false h1
  have hs : s.size ≤ 800 := by omega
  refine ⟨⟨_, Tryd.func16, rfl, by kernel_rfl⟩, CallS.use (scopes_ s (by omega) H0) [] rfl rfl trivial ?_⟩
  rintro e H1 G' hle1 ⟨hr, rfl⟩
  rcases hr with ⟨h2, rfl⟩ | ⟨L, B, m, c, h2, rfl, hv, hmc⟩
  · (conv => whnf)
    refine ⟨⟨_, Tryd.func17, rfl, by kernel_rfl⟩, CallS.use (RefN.scopes_ s (by omega) H1) [] rfl rfl trivial ?_⟩
    rintro e H2 G' hle2 ⟨hr, rfl⟩
    rcases hr with ⟨h3, rfl⟩ | ⟨L2, B2, m2, c2, h3, _⟩
    · (conv => whnf)
      exact ⟨rfl, hl0.trans (hle1.trans hle2), rfl⟩
    · rw [← same, h2] at h3; cases h3
  (conv => whnf)
  refine ⟨⟨_, Tryd.func17, rfl, by kernel_rfl⟩, CallS.use (RefN.scopes_ s (by omega) H1) [] rfl rfl trivial ?_⟩
  rintro e H2 G' hle2 ⟨hr, rfl⟩
  rcases hr with ⟨h3, _⟩ | ⟨L2, B2, m2, c2, h3, rfl, hv2⟩
  · rw [← same, h2] at h3; cases h3
  obtain rfl : L = L2 := by
    rw [← same, h2] at h3
    injection h3
  obtain ⟨ha, hu, hl8⟩ := prog_facts h2
  have hxl : ∀ l ∈ L, l.length ≤ 10000 := fun l hl => by have := name_facts (List.all_eq_true.1 ha l hl); omega
  have hm : m = L.length := by have := hv.1; rw [stC_len] at this; exact this
  have hm2 : m2 = L.length := by have := hv2.1; rw [stC_len] at this; exact this
  subst hm hm2
  (conv => whnf)
  refine br.of (fun h4 => absurd h4 (by simp)) (fun _ => ?_) <;> (conv => whnf)
  have hv1 := hv.mono hle2
  refine ⟨⟨_, Tryd.func18, rfl, by kernel_rfl⟩, CallS.use (scope_ L hl8 hxl B L.length c hmc H2 hv1) [] rfl rfl trivial ?_⟩
  rintro e H3 G' hle3 ⟨rfl, hl3, rfl⟩
  (conv => whnf)
  have hjl := jn_len L
  have hll := lens_le hl8 hxl
  have hv3 := hv2.mono hl3
  refine ⟨⟨_, Tryd.func19, rfl, by kernel_rfl⟩, CallS.use (RefN.scope_ L (by omega) (by omega) B2 L.length c2 H3 hv3) [] rfl rfl trivial ?_⟩
  rintro e H4 G' hle4 ⟨rfl, rfl, rfl⟩
  (conv => whnf)
  refine br.of (fun h5 => ?_) (fun _ => ?_) <;> (conv => whnf)
  · rw [strEq_iff.2 rfl] at h5; cases h5
  refine ⟨⟨_, Tryd.func18, rfl, by kernel_rfl⟩, CallS.use (scope_ L hl8 hxl B L.length c hmc H4 (hv1.mono hl3)) [] rfl rfl trivial ?_⟩
  rintro e H5 G' hle5 ⟨rfl, hl5, rfl⟩
  (conv => whnf)
  have hbk := back h2
  have hsz : (sL (jnP L)).size ≤ 10000 := by
    rw [sL_size]
    have : lens L ≤ 40 * L.length := by
      have h : ∀ M : List (List UInt8), (∀ l ∈ M, l.length ≤ 40) → lens M ≤ 40 * M.length := by
        intro M
        induction M with
        | nil => intro _; simp [lens]
        | cons x r ih =>
          intro hM
          have h1 := ih fun l hl => hM l (List.mem_cons_of_mem _ hl)
          have h2 := hM x (by simp)
          unfold lens at *
          simp only [List.map_cons, List.sum_cons, List.length_cons] at *
          omega
      exact h L fun l hl => (name_facts (List.all_eq_true.1 ha l hl)).2.2
    omega
  refine ⟨⟨_, Tryd.func16, rfl, by kernel_rfl⟩, CallS.use (scopes_ (sL (jnP L)) hsz H5) [] rfl rfl trivial ?_⟩
  rintro e H6 G' hle6 ⟨hr, rfl⟩
  rcases hr with ⟨h6, _⟩ | ⟨L3, B3, m3, c3, h6, rfl, hv6, _⟩
  · rw [hbk] at h6; cases h6
  obtain rfl : L = L3 := by
    rw [hbk] at h6
    injection h6
  have hm3 : m3 = L.length := by have := hv6.1; rw [stC_len] at this; exact this
  subst hm3
  (conv => whnf)
  refine br.of (fun h4 => absurd h4 (by simp)) (fun _ => ?_) <;> (conv => whnf)
  have hvA := ((hv1.mono hl3).mono hl5).mono hle6
  have hvB := ((hv2.mono hl3).mono hl5).mono hle6
  have hAll : H.Le H6 := hl0.trans (hle1.trans (hle2.trans (hl3.trans (hl5.trans hle6))))
  refine WS.loop (fun k F H7 G => ∃ i : Nat, i ≤ L.length ∧ k = L.length - i ∧ F = [(3, pv (.slice B L.length c)), (5, pv (.slice B2 L.length c2)), (7, pv (.slice B3 L.length c3)), (66, pv (.slice B L.length c)), (67, pv (.int .i64 L.length)), (68, pv (.int .i64 i))] ∧ H7 = H6 ∧ G = []) (L.length + 1) ?_ ?_
  · refine ⟨L.length, by omega, _, _, [], ⟨0, by omega, rfl, rfl, rfl, rfl⟩, ?_⟩
    exact ⟨rfl, trivial, rfl, rfl, rfl, rfl, rfl, rfl, trivial⟩
  rintro k F H7 G hle7 ⟨i, hi, rfl, rfl, rfl, rfl⟩
  refine codeL.go tab ?_
  (conv => whnf)
  refine br.of (fun h7 => ?_) (fun h7 => ?_) <;> (conv => whnf)
  · have h7 := of_decide_eq_true h7
    have hil : i < L.length := by omega
    have hget : L[i]? = some (L[i]'hil) := List.getElem?_eq_getElem _
    generalize L[i]'hil = x at hget
    have hgc : (stC L)[i]? = some (.string (sL x)) := by unfold stC; simp [hget, sL]
    have ho1 : (i : Int).toNat * 1 = i := by omega
    refine ⟨⟨by omega, by omega⟩, hvA.addr (by omega), ?_⟩
    (conv => whnf)
    refine ⟨_, hvA.get hgc ho1, ?_⟩
    (conv => whnf)
    refine ⟨⟨by omega, by omega⟩, hvB.addr (by omega), ?_⟩
    (conv => whnf)
    refine ⟨_, hvB.get hgc ho1, ?_⟩
    (conv => whnf)
    refine br.of (fun h5 => ?_) (fun _ => ?_) <;> (conv => whnf)
    · rw [strEq_iff.2 rfl] at h5; cases h5
    refine ⟨⟨by omega, by omega⟩, hv6.addr (by omega), ?_⟩
    (conv => whnf)
    refine ⟨_, hv6.get hgc ho1, ?_⟩
    (conv => whnf)
    refine br.of (fun h5 => ?_) (fun _ => ?_) <;> (conv => whnf)
    · rw [strEq_iff.2 rfl] at h5; cases h5
    rw [wrap64 (x := (i : Int) + 1) (by omega) (by omega)]
    refine ⟨L.length - (i + 1), by omega, _, _, [], ⟨i + 1, by omega, rfl, rfl, rfl, rfl⟩, ?_⟩
    exact ⟨rfl, trivial, rfl, rfl, rfl, rfl, rfl, rfl, trivial⟩
  · exact ⟨rfl, hAll, rfl⟩
end Pg
end Go.Kx.Sco
