/-
  digest.quads: the closure that picks a word, the iterator.
-/
import Derived.Test.YtnemclbeofiakaaWg
import Derived.Test.YtnemclbeofiakaaReg5
import Derived.Test.YtnemclbeofiakaaRange
namespace Go.Proofs.Ytnemclbeofiakaa
open Go.RowKit Bl

/-- a variable that holds a number -/
def IntAt (w : World) (p i : Nat) : Prop := w.heap[p]? = some (.cells #[.int .i64 (i : Int)] 3 (0, 0))
theorem IntAt.cell {w : World} {p i : Nat} (h : IntAt w p i) : w.cell? ⟨p, 0, none⟩ = some (.int .i64 (i : Int)) := cell_of_row w p 0 _ _ _ h
theorem IntAt.below {w w' : World} {p i : Nat} (h : IntAt w p i) (hb : Below w.heap.size w w') : IntAt w' p i := blk_below h hb

theorem quad_any (i b p : Nat) (hi : i < 8) (hb : b < 4) (w : World) (hp : IntAt w p i) :
    Calls Try.prog 34 #[.int .i64 (b : Int), .pointer (some ⟨p, 0, none⟩)] w fun e w' => e = .returned (.int .i64 ((qd i b : Nat) : Int)) ∧ w' = w := by
  have hc := hp.cell
  clear hp
  have hq : (i : Int) / 4 = ((i / 4 : Nat) : Int) := by omega
  have hq1 : i / 4 < 2 := by omega
  generalize hqe : i / 4 = q at hq hq1
  have hm : b * q < 4 := by
    rcases (show q = 0 ∨ q = 1 by omega) with rfl | rfl <;> omega
  go_enter Try.func34, Try.ntmps34
  go_wp2
  go_ret
  refine ⟨?_, rfl⟩
  unfold qd
  rw [hqe]
  congr 2


section
variable {P : Program} {Q : Exit → Act → World → Prop} {o : Oper} {a : Act} {w : World} {K : Act → World → Prop}
/-- a call of a function value -/
theorem ow_callv {f : FuncId} {fn : Func} {c : Code} (hf : P.funcs[f]? = some fn) (hname : (fn.name == "runtime.NumGoroutine") = false) (hb : fn.body = some c) (x : Operand) (args : Array Operand) (ats : Array TypeId)
    (ho : o.op = .call { callee := .value x, args := args, argTypes := ats }) {cap : Array Value} (hx : a.eval x = .func (.func f) #[] cap) {vs : Array Value} (hv : args.map a.eval = vs)
    (h : Calls P f (vs ++ cap) w fun e w' => ∃ v, e = .returned v ∧ K (a.put o.dst v) w') : o.wp P a w K Q := by
  subst hv
  have hr : (execOp a.eval o).run P w = .ok (.enter f (args.map a.eval ++ cap)) w := by
    unfold execOp
    simp only [ho]
    have h1 : fn.name ≠ "runtime.NumGoroutine" := by simpa using hname
    simp [resolve, Deferred.ofValue, invoke, callFunc, hx, hf, h1, hb]
  unfold Oper.wp
  rw [hr, Oper.upon_enter]
  refine h.mono ?_
  rintro e w' ⟨v, rfl, hk⟩
  exact hk
end
theorem run_build4 (x y z u : Int) (w : World) : (Instr.build 65 #[(0, .int .i64 x), (1, .int .i64 y), (2, .int .i64 z), (3, .int .i64 u)]).run Try.prog w = .ok (.agg #[.int .i64 x, .int .i64 y, .int .i64 z, .int .i64 u]) w := by
  kernel_rfl
theorem ow_build4 {Q : Exit → Act → World → Prop} {o : Oper} {a : Act} {w : World} {K : Act → World → Prop} (x y z u : Operand) (ho : o.op = .build 65 #[(0, x), (1, y), (2, z), (3, u)]) {i j k l : Int} (hx : a.eval x = .int .i64 i) (hy : a.eval y = .int .i64 j) (hz : a.eval z = .int .i64 k) (hu : a.eval u = .int .i64 l)
    (h : K (a.put o.dst (.agg #[.int .i64 i, .int .i64 j, .int .i64 k, .int .i64 l])) w) : o.wp Try.prog a w K Q := by
  refine ow_value ?_ h
  unfold execOp
  simp only [ho, List.map_toArray, List.map_cons, List.map_nil, hx, hy, hz, hu, Sem.run_bind, Sem.run_pure, run_build4, Result.andThen_ok]

/-- what is handed on in the i-th step -/
def qenc (i : Nat) : Array Value := #[.int .i64 (i : Int), .agg #[.int .i64 ((qd i 0 : Nat) : Int), .int .i64 ((qd i 1 : Nat) : Int), .int .i64 ((qd i 2 : Nat) : Int), .int .i64 ((qd i 3 : Nat) : Int)]]

set_option maxHeartbeats 1000000 in
theorem quads1_iterates (w : World) : Iterates Try.prog 33 #[] qenc (fun xs => ∃ k, k ≤ 8 ∧ xs = List.range k) (fun xs => xs = List.range 8) (fun _ _ => False) (fun _ _ => True) 0 w := by
  intro n l J W hbel hsz hJ hY hJ0
  have HJ := Lib.hid hJ
  have HY := Lib.hid hY
  have HJ0 := Lib.hid hJ0
  clear hJ hY hJ0 hbel hsz
  refine callsIn_wide.2 ?_
  go_enter Try.func33, Try.ntmps33
  go_wp2_with fail
  go_loopw [4] (fun i wr => ∃ k : Nat, k ≤ 8 ∧ i = .int .i64 (k : Int) ∧ J (List.range k) wr) (fun i _ => 8 - (intOf i).toNat)
  case atStart => exact ⟨0, by omega, rfl, HJ0.out⟩
  case round =>
    clear HJ0
    obtain ⟨k, hk, rfl, hj⟩ := hrel
    have HJK := Lib.hid hj
    clear hj
    rcases (show k = 8 ∨ k < 8 by omega) with rfl | hk8
    · go_wp2_with fail
      go_end0
      exact ⟨⟨_, rfl⟩, _, rfl, HJK.out⟩
    · have hd : decide ((k : Int) < 8) = true := by simp; omega
      have hmf : ∀ (fn : Fn) (first cap : Array Value) (w : World), (Instr.makeFunc fn first cap).run Try.prog w = .ok (.func fn first cap) w := fun _ _ _ _ => rfl
      go_wp2_with fail
      have hj1 : J (List.range k) (wr.alloc (.cells #[.int .i64 (k : Int)] 3)) := HJ.out _ _ _ HJK.out (touch_alloc _ _)
      have hp1 : IntAt (wr.alloc (.cells #[.int .i64 (k : Int)] 3)) wr.heap.size k := World.alloc_heap_new _ _
      have HJ1 := Lib.hid hj1
      have HP := Lib.hid hp1
      clear hj1 hp1 HJK
      obtain ⟨p, hp⟩ : ∃ p, p = wr.heap.size := ⟨_, rfl⟩
      rw [← hp] at HP ⊢
      obtain ⟨w1, hw1⟩ : ∃ w1, w1 = wr.alloc (.cells #[.int .i64 (k : Int)] 3) := ⟨_, rfl⟩
      rw [← hw1] at HP HJ1 ⊢
      clear hp hw1
      refine (wpIn_wide (n := n)).1 ?_
      refine region_y 11 (fun i vs W => match i with
          | 0 => vs 0 = .func (.yield l) #[] #[]
          | 1 => vs 1 = .int .i64 (k : Int)
          | 2 => vs 2 = .func (.func 34) #[] #[.pointer (some ⟨p, 0, none⟩)]
          | 3 => vs 3 = .int .i64 ((qd k 0 : Nat) : Int)
          | 4 => vs 4 = .func (.func 34) #[] #[.pointer (some ⟨p, 0, none⟩)]
          | 5 => vs 5 = .int .i64 ((qd k 1 : Nat) : Int)
          | 6 => vs 6 = .func (.func 34) #[] #[.pointer (some ⟨p, 0, none⟩)]
          | 7 => vs 7 = .int .i64 ((qd k 2 : Nat) : Int)
          | 8 => vs 8 = .func (.func 34) #[] #[.pointer (some ⟨p, 0, none⟩)]
          | 9 => vs 9 = .int .i64 ((qd k 3 : Nat) : Int)
          | 10 => vs 10 = .agg #[.int .i64 ((qd k 0 : Nat) : Int), .int .i64 ((qd k 1 : Nat) : Int), .int .i64 ((qd k 2 : Nat) : Int), .int .i64 ((qd k 3 : Nat) : Int)]
          | _ => True) (fun _ U U' => Below U.heap.size U U') (fun U => Below w1.heap.size w1 U) (by kernel_rfl) (by kernel_rfl) (fun i k vs w w' _ _ h _ => h) ?h0 ?step ?fin
      case h0 => exact (Below.refl _ _).drew
      case step =>
        intro i op hi ho ac U hS hag hdep
        have hbr : Below U.heap.size U U := Below.refl _ _
        match i, hi, ho with
        | 0, _, rfl => exact ow_move _ rfl (hag 0 rfl) ⟨_, rfl, fun vs' h _ => h (fun e => by cases e), hbr, hS⟩
        | 1, _, rfl => exact ow_load_int _ 3 .i64 rfl p 0 (hag 2 rfl) _ (HP.out.below hS).cell Try.underlying3 ⟨_, rfl, fun vs' h _ => h (fun e => by cases e), hbr, hS⟩
        | 2, _, rfl => exact ow_move _ rfl (hag 3 rfl) ⟨_, rfl, fun vs' h _ => h (fun e => by cases e), hbr, hS⟩
        | 3, _, rfl =>
          have h1 : ac.eval (.tmp 10) = .func (.func 34) #[] #[.pointer (some ⟨p, 0, none⟩)] := hdep 2 (by omega) (by kernel_rfl)
          refine ow_callv Try.func34 (by kernel_rfl) rfl _ _ _ rfl h1 (vs := #[.int .i64 0]) (by simp [Act.eval]) ?_
          refine (quad_any k 0 p hk8 (by omega) U (HP.out.below hS)).mono ?_
          rintro e w' ⟨rfl, rfl⟩
          exact ⟨_, rfl, _, rfl, fun vs' h _ => h (fun e => by cases e), hbr, hS⟩
        | 4, _, rfl => exact ow_move _ rfl (hag 3 rfl) ⟨_, rfl, fun vs' h _ => h (fun e => by cases e), hbr, hS⟩
        | 5, _, rfl =>
          have h1 : ac.eval (.tmp 12) = .func (.func 34) #[] #[.pointer (some ⟨p, 0, none⟩)] := hdep 4 (by omega) (by kernel_rfl)
          refine ow_callv Try.func34 (by kernel_rfl) rfl _ _ _ rfl h1 (vs := #[.int .i64 1]) (by simp [Act.eval]) ?_
          refine (quad_any k 1 p hk8 (by omega) U (HP.out.below hS)).mono ?_
          rintro e w' ⟨rfl, rfl⟩
          exact ⟨_, rfl, _, rfl, fun vs' h _ => h (fun e => by cases e), hbr, hS⟩
        | 6, _, rfl => exact ow_move _ rfl (hag 3 rfl) ⟨_, rfl, fun vs' h _ => h (fun e => by cases e), hbr, hS⟩
        | 7, _, rfl =>
          have h1 : ac.eval (.tmp 14) = .func (.func 34) #[] #[.pointer (some ⟨p, 0, none⟩)] := hdep 6 (by omega) (by kernel_rfl)
          refine ow_callv Try.func34 (by kernel_rfl) rfl _ _ _ rfl h1 (vs := #[.int .i64 2]) (by simp [Act.eval]) ?_
          refine (quad_any k 2 p hk8 (by omega) U (HP.out.below hS)).mono ?_
          rintro e w' ⟨rfl, rfl⟩
          exact ⟨_, rfl, _, rfl, fun vs' h _ => h (fun e => by cases e), hbr, hS⟩
        | 8, _, rfl => exact ow_move _ rfl (hag 3 rfl) ⟨_, rfl, fun vs' h _ => h (fun e => by cases e), hbr, hS⟩
        | 9, _, rfl =>
          have h1 : ac.eval (.tmp 16) = .func (.func 34) #[] #[.pointer (some ⟨p, 0, none⟩)] := hdep 8 (by omega) (by kernel_rfl)
          refine ow_callv Try.func34 (by kernel_rfl) rfl _ _ _ rfl h1 (vs := #[.int .i64 3]) (by simp [Act.eval]) ?_
          refine (quad_any k 3 p hk8 (by omega) U (HP.out.below hS)).mono ?_
          rintro e w' ⟨rfl, rfl⟩
          exact ⟨_, rfl, _, rfl, fun vs' h _ => h (fun e => by cases e), hbr, hS⟩
        | 10, _, rfl =>
          have h0 : ac.eval (.tmp 11) = .int .i64 ((qd k 0 : Nat) : Int) := hdep 3 (by omega) (by kernel_rfl)
          have h1 : ac.eval (.tmp 13) = .int .i64 ((qd k 1 : Nat) : Int) := hdep 5 (by omega) (by kernel_rfl)
          have h2 : ac.eval (.tmp 15) = .int .i64 ((qd k 2 : Nat) : Int) := hdep 7 (by omega) (by kernel_rfl)
          have h3 : ac.eval (.tmp 17) = .int .i64 ((qd k 3 : Nat) : Int) := hdep 9 (by omega) (by kernel_rfl)
          exact ow_build4 _ _ _ _ rfl h0 h1 h2 h3 ⟨_, rfl, fun vs' h _ => h (fun e => by cases e), hbr, hS⟩
        | n + 11, hi, _ => exact absurd hi (by omega)
      case fin =>
        intro vs U hS hF
        have e0 : vs 0 = .func (.yield l) #[] #[] := hF 0 (by omega)
        have e1 : vs 1 = .int .i64 (k : Int) := hF 1 (by omega)
        have e10 : vs 10 = .agg #[.int .i64 ((qd k 0 : Nat) : Int), .int .i64 ((qd k 1 : Nat) : Int), .int .i64 ((qd k 2 : Nat) : Int), .int .i64 ((qd k 3 : Nat) : Int)] := hF 10 (by omega)
        clear hF
        change wpListIn Fence.wide n _ _ _ _ (Act.put (Act.put (Act.put (Act.put (Act.put (Act.put (Act.put (Act.put (Act.put (Act.put (Act.put _ (some 8) (vs 0)) (some 9) (vs 1)) (some 10) (vs 2)) (some 11) (vs 3)) (some 12) (vs 4)) (some 13) (vs 5)) (some 14) (vs 6)) (some 15) (vs 7)) (some 16) (vs 8)) (some 17) (vs 9)) (some 18) (vs 10)) U
        rw [e0, e1, e10]
        clear e0 e1 e10
        generalize vs 2 = z2
        generalize vs 3 = z3
        generalize vs 4 = z4
        generalize vs 5 = z5
        generalize vs 6 = z6
        generalize vs 7 = z7
        generalize vs 8 = z8
        generalize vs 9 = z9
        simp only [putAll, List.drop_succ_cons, List.drop_zero, Act.put, List.setIfInBounds_toArray, List.set_cons_zero, List.set_cons_succ]
        clear vs
        have hjU : J (List.range k) U := HJ.out _ _ _ HJ1.out (Touch.of_below hS)
        have hY3 := HY.out (List.range k) k U hjU (Nat.zero_le _) ⟨k + 1, by omega, by rw [List.range_succ]⟩
        obtain ⟨fn, tmps, assign, body, hy, hR⟩ := hY3
        have hy : (Instr.yield l #[.int .i64 (k : Int), .agg #[.int .i64 ((qd k 0 : Nat) : Int), .int .i64 ((qd k 1 : Nat) : Int), .int .i64 ((qd k 2 : Nat) : Int), .int .i64 ((qd k 3 : Nat) : Int)]]).run Try.prog U = .ok (.round l fn tmps assign body) U := hy
        have HRR := Lib.hid hR
        clear hR hjU hS HJ1 HP
        gi_wp2
        refine ⟨fun h => by simp [Fence.wide] at h, HRR.out.mono ?_⟩
        rintro e w4 ⟨rfl, hJ4, -⟩
        have HJ4 := Lib.hid hJ4
        clear hJ4
        gi_wp2
        go_wp2_with fail
        go_roundw
        case rel => exact ⟨k + 1, by omega, rfl, by rw [List.range_succ]; exact HJ4.out⟩
        case measure => simp [intOf]; omega
end Go.Proofs.Ytnemclbeofiakaa
