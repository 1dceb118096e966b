/- One step. No condition of its own. -/
import Derived.Test.YtocmciilifenhaaPushG
namespace Go.Kx.Push
open Go.Proofs Go.Kx
set_option maxRecDepth 20000

def okT (now j : Int) : Prop := 0 ≤ j ∧ j ≤ 1000 ∧ 0 ≤ now ∧ now ≤ 1099511627776
instance (now j : Int) : Decidable (okT now j) := by unfold okT; infer_instance
def pStart (pl : Lines) (n : Int) (jti : ByteArray) : Lines × Int :=
  if jti = ⟨#[]⟩ then (pl, 10) else if (lineOf pl n).1 ≠ ⟨#[]⟩ then (pl, 16) else (updL pl n (jti, (lineOf pl n).2), 0)
def pEnd (b c : Int) (pl : Lines) (n : Int) (good : Bool) (now j : Int) : Lines × Int :=
  if (lineOf pl n).1 = ⟨#[]⟩ then (pl, 16) else if good = true then (delL pl n, 0) else if ¬ okT now j then (pl, 12) else (updL pl n (⟨#[]⟩, (lineOf pl n).2.1 + 1, dueN b c now ((lineOf pl n).2.1 + 1) j), 0)
def lStart (ls : List Ln) (n : Int) (jti : ByteArray) : List Ln × Int :=
  if jti = ⟨#[]⟩ then (ls, 10) else if (getL ls n).2.1 ≠ ⟨#[]⟩ then (ls, 16) else (putL ls (n, jti, (getL ls n).2.2), 0)
def lEnd (b c : Int) (ls : List Ln) (n : Int) (good : Bool) (now j : Int) : List Ln × Int :=
  if (getL ls n).2.1 = ⟨#[]⟩ then (ls, 16) else if good = true then (putL ls (n, ⟨#[]⟩, 0, 0), 0) else if ¬ okT now j then (ls, 12) else (putL ls (n, ⟨#[]⟩, (getL ls n).2.2.1 + 1, dueN b c now ((getL ls n).2.2.1 + 1) j), 0)
def PRet (b c : Int) (p : Lines × Int) (e : SE) (G' : List SB) : Prop := e = .ret (pv (.int .i64 p.2)) ∧ ∃ cnt', G' = pushG b c cnt' p.1

theorem start' (b c : Int) (cnt : Nat) (pl : Lines) (n : Int) (jti : ByteArray) (H : Hp) : CallO Try.prog 29 [.si (.ce (.ptr 0 0)), pv (.int .i64 n), pv (.string jti)] H (pushG b c cnt pl) fun e H' G' => H' = H ∧ PRet b c (pStart pl n jti) e G' := by
  refine (start b c cnt pl n jti H).mono fun e H' G' _ ⟨h0, h1, h2, h3⟩ => ⟨h0, ?_⟩
  unfold pStart
  split
  · rename_i h; obtain ⟨rfl, rfl⟩ := h1 h; exact ⟨rfl, cnt, rfl⟩
  · rename_i h
    split
    · rename_i h'; obtain ⟨rfl, rfl⟩ := h2 h h'; exact ⟨rfl, cnt, rfl⟩
    · rename_i h'; obtain ⟨rfl, cnt', rfl⟩ := h3 h (Classical.not_not.1 h'); exact ⟨rfl, cnt', rfl⟩
theorem end' (b c : Int) (cnt : Nat) (pl : Lines) (n : Int) (good : Bool) (now j : Int) (hr : rightB b c = true) (hf0 : 0 ≤ (lineOf pl n).2.1) (hf1 : (lineOf pl n).2.1 ≤ 1000000) (H : Hp) :
    CallO Try.prog 30 [.si (.ce (.ptr 0 0)), pv (.int .i64 n), pv (.bool good), pv (.int .i64 now), pv (.int .i64 j)] H (pushG b c cnt pl) fun e H' G' => H' = H ∧ PRet b c (pEnd b c pl n good now j) e G' := by
  refine (end_ b c cnt pl n good now j hr hf0 hf1 H).mono fun e H' G' _ ⟨h0, h1, h2, h3, h4⟩ => ⟨h0, ?_⟩
  unfold pEnd
  split
  · rename_i h; obtain ⟨rfl, rfl⟩ := h1 h; exact ⟨rfl, cnt, rfl⟩
  · rename_i h
    split
    · rename_i h'; obtain ⟨rfl, cnt', rfl⟩ := h2 h h'; exact ⟨rfl, cnt', rfl⟩
    · rename_i h'
      have h' : good = false := by cases good <;> simp_all
      split
      · rename_i h''; obtain ⟨rfl, rfl⟩ := h3 h h' h''; exact ⟨rfl, cnt, rfl⟩
      · rename_i h''; obtain ⟨rfl, cnt', rfl⟩ := h4 h h' (Classical.not_not.1 h''); exact ⟨rfl, cnt', rfl⟩
theorem refStart' (b c : Int) (A : Option Addr) (len cap : Nat) (ls : List Ln) (n : Int) (jti : ByteArray) (H : Hp) (hm : MOk H A len ls) (hl : len ≤ 1000000) : CallO Try.prog 37 [mV b c A len cap, pv (.int .i64 n), pv (.string jti)] H [] fun e H' G' => G' = [] ∧ MRet b c (lStart ls n jti).1 (lStart ls n jti).2 e H' := by
  refine (refStart b c A len cap ls n jti H hm hl).mono fun e H' G' _ ⟨h0, h1, h2, h3⟩ => ⟨h0, ?_⟩
  unfold lStart
  split
  · rename_i h; exact h1 h
  · rename_i h
    split
    · rename_i h'; exact h2 h h'
    · rename_i h'; exact h3 h (Classical.not_not.1 h')
theorem refEnd' (b c : Int) (A : Option Addr) (len cap : Nat) (ls : List Ln) (n : Int) (good : Bool) (now j : Int) (hr : rightB b c = true) (H : Hp) (hm : MOk H A len ls) (hl : len ≤ 1000000) (hf0 : 0 ≤ (getL ls n).2.2.1) (hf1 : (getL ls n).2.2.1 ≤ 1000000) :
    CallO Try.prog 38 [mV b c A len cap, pv (.int .i64 n), pv (.bool good), pv (.int .i64 now), pv (.int .i64 j)] H [] fun e H' G' => G' = [] ∧ MRet b c (lEnd b c ls n good now j).1 (lEnd b c ls n good now j).2 e H' := by
  refine (refEnd b c A len cap ls n good now j hr H hm hl hf0 hf1).mono fun e H' G' _ ⟨h0, h1, h2, h3, h4⟩ => ⟨h0, ?_⟩
  unfold lEnd
  split
  · rename_i h; exact h1 h
  · rename_i h
    split
    · rename_i h'; exact h2 h h'
    · rename_i h'
      have h' : good = false := by cases good <;> simp_all
      split
      · rename_i h''; exact h3 h h' h''
      · rename_i h''; exact h4 h h' (Classical.not_not.1 h'')

structure Opr where
  kind : Int
  n : Int
  jti : ByteArray
  good : Bool
  now : Int
  j : Int
def Opr.cells (o : Opr) : List Value := [.int .i64 o.kind, .int .i64 o.n, .string o.jti, .bool o.good, .int .i64 o.now, .int .i64 o.j]
def pStep (b c : Int) (pl : Lines) (o : Opr) : Lines × Int := if o.kind = 1 then pStart pl o.n o.jti else if o.kind = 2 then pEnd b c pl o.n o.good o.now o.j else (pl, 0)
def lStep (b c : Int) (ls : List Ln) (o : Opr) : List Ln × Int := if o.kind = 1 then lStart ls o.n o.jti else if o.kind = 2 then lEnd b c ls o.n o.good o.now o.j else (ls, 0)
theorem step (b c : Int) (cnt : Nat) (pl : Lines) (A : Option Addr) (len cap : Nat) (ls : List Ln) (o : Opr) (hr : rightB b c = true) (H : Hp) (hm : MOk H A len ls) (hl : len ≤ 1000000)
    (hf0 : 0 ≤ (lineOf pl o.n).2.1) (hf1 : (lineOf pl o.n).2.1 ≤ 1000000) (hg0 : 0 ≤ (getL ls o.n).2.2.1) (hg1 : (getL ls o.n).2.2.1 ≤ 1000000) :
    CallO Try.prog 25 [.si (.ce (.ptr 0 0)), mV b c A len cap, .si (.ag (o.cells.map .val))] H (pushG b c cnt pl) fun e H' G' =>
      ∃ A' len' cap' cnt', e = .ret (.tu [.ag [.val (.int .i64 b), .val (.int .i64 c), .val (.slice A' len' cap')], .ce (.val (.bool ((pStep b c pl o).2 == (lStep b c ls o).2)))]) ∧ MOk H' A' len' (lStep b c ls o).1 ∧ G' = pushG b c cnt' (pStep b c pl o).1 := by
  obtain ⟨kind, n, jti, good, now, j⟩ := o
  simp only at hf0 hf1 hg0 hg1
  refine CallO.of_body tab Try.func25 rfl (nt := Try.f25.ntmps) rfl (by kernel_rfl) ?_
  conv => whnf
  refine br.of (fun h1 => ?_) (fun h1 => ?_) <;> conv => whnf
  · have h1 : kind = 1 := by simpa using h1
    subst h1
    refine ⟨bod29, CallS.use (start' b c cnt pl n jti H) [0, 1] rfl rfl ⟨rfl, rfl, trivial⟩ ?_⟩
    rintro e H' G' hle ⟨rfl, rfl, cnt', rfl⟩
    conv => whnf
    refine ⟨bod37, CallS.use (refStart' b c A len cap ls n jti H' hm hl) [] rfl rfl trivial ?_⟩
    rintro e H2 G' hle2 ⟨rfl, A', len', cap', rfl, h2⟩
    conv => whnf
    exact ⟨A', len', cap', cnt', rfl, h2, rfl⟩
  · have h1 : kind ≠ 1 := by simpa using h1
    refine br.of (fun h2 => ?_) (fun h2 => ?_) <;> conv => whnf
    · have h2 : kind = 2 := by simpa using h2
      subst h2
      refine ⟨bod30, CallS.use (end' b c cnt pl n good now j hr hf0 hf1 H) [0, 1] rfl rfl ⟨rfl, rfl, trivial⟩ ?_⟩
      rintro e H' G' hle ⟨rfl, rfl, cnt', rfl⟩
      conv => whnf
      refine ⟨bod38, CallS.use (refEnd' b c A len cap ls n good now j hr H' hm hl hg0 hg1) [] rfl rfl trivial ?_⟩
      rintro e H2 G' hle2 ⟨rfl, A', len', cap', rfl, h2⟩
      conv => whnf
      exact ⟨A', len', cap', cnt', rfl, h2, rfl⟩
    · have h2 : kind ≠ 2 := by simpa using h2
      have e1 : pStep b c pl ⟨kind, n, jti, good, now, j⟩ = (pl, 0) := by simp [pStep, h1, h2]
      have e2 : lStep b c ls ⟨kind, n, jti, good, now, j⟩ = (ls, 0) := by simp [lStep, h1, h2]
      rw [e1, e2]
      exact ⟨A, len, cap, cnt, rfl, hm, rfl⟩
end Go.Kx.Push
