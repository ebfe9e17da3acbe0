/- attach.Apply. -/
import Derived.Test.YtaiapnemlnmeiaaT9
namespace Go.Proofs.Ytaiapnemlnmeiaa
open Go Go.Eng Go.RowKit

abbrev rho8 (a c m s sf p pf l : Value) : Nat → Value := fun i => match i with | 0 => a | 1 => c | 2 => m | 3 => s | 4 => sf | 5 => p | 6 => pf | _ => l
abbrev apC (f : Font) (l : List Int) (out : List Place) : List Chunk :=
  [.rd Int inferInstance 1 hE f.adv, .rd Int inferInstance 1 bE f.cls, .rd Pair2 inferInstance 2 mpE f.maps, .rd Lookup inferInstance 4 lkE f.subs, .rd Feature inferInstance 5 feE f.sfeats, .rd Lookup inferInstance 4 lkE f.poss, .rd Feature inferInstance 5 feE f.pfeats,
   .rd Int inferInstance 1 hE l, .dead, .bx 30 (foS f 0), .bx 34 [.v (.int .i64 0)], .own 38 Place inferInstance 4 plE out, .bx 72 (foS f 0 ++ [.sl 7, .sl 11])]
def noT (_ : Pos) (_ : Nat) (o : List Place) : Bool × List Place := (false, o)
theorem takeMap (f : Font) (l : List Int) (i : Nat) (h : i < l.length) : (l.take (i + 1)).map (startP f) = (l.take i).map (startP f) ++ [startP f (nth l i)] := by
  rw [List.take_add_one, List.map_append]
  unfold nth
  rw [List.getD_eq_getElem?_getD, List.getElem?_eq_getElem h]
  rfl

set_option maxHeartbeats 1600000 in
theorem apply_c (f : Font) (l : List Int) (hf : FontOk f) (hl : U16L l) (hll : l.length ≤ 16384) (v u : Value) (w : World) (hv : FontV (· < w.heap.size) w f v) (hu : Rd w u 1 hE l) :
    Calls Try.prog 8 #[v, u] w fun e w' => ∃ o, e = .returned (.tuple #[o, .int .i64 0]) ∧ Below w.heap.size w w' ∧ Fresh w w' o 38 4 plE (applyF f l) := by
  obtain ⟨a, c, m, s, sf, p, pf, rfl, h1, h2, h3, h4, h5, h6, h7⟩ := hv.get
  refine calls_execD (cf := cf) cfok (fn := Try.f8) Try.func8 rfl [.agg (foS f 0), .sl 7] (foC f ++ [Chunk.rd Int inferInstance 1 hE l]) (ρ := rho8 a c m s sf p pf u) (· < w.heap.size) rfl rfl rfl (by simp [svOkL, svOk]) (memRd (fun _ h => h) ⟨h1, h2, h3, h4, h5, h6, h7, hu, trivial⟩) ?_
  refine And.intro (fun h => absurd (of_decide_eq_true h : (l.length : Int) > 16384) (by omega)) (fun _ => ?_)
  refine ⟨{ i : Nat // i ≤ l.length }, fun i => ⟨88, [⟨1, [], .sl 7⟩, ⟨2, [], .bx 9 0⟩, ⟨5, [], .bx 10 0⟩, ⟨6, [], .bx 12 0⟩, ⟨22, [], .sl 7⟩, ⟨23, [], .v (.int .i64 l.length)⟩, ⟨24, [], .v (.int .i64 i.1)⟩], apC f l ((l.take i.1).map (startP f)), [], dropL nats 13⟩, fun i => l.length - i.1,
    ⟨[0, 1, 2, 3, 4, 5, 6, 7, 8, 9, 10, 1000, 11], ⟨0, by omega⟩, ?_⟩, fun i => ?_⟩
  · exact And.intro (And.intro (rfl) (And.intro (rfl) (And.intro (rfl) (And.intro (rfl) (And.intro (rfl) (And.intro (rfl) (And.intro (rfl) trivial))))))) (And.intro (rfl) (And.intro (rfl) (And.intro (rfl) (And.intro (rfl) (And.intro (rfl) (And.intro (rfl) (And.intro (rfl) (And.intro (rfl) (And.intro (trivial) (And.intro (⟨rfl, rfl⟩) (And.intro (⟨rfl, rfl⟩) (And.intro (rfl) (And.intro (⟨rfl, rfl⟩) trivial)))))))))))))
  obtain ⟨i, hi⟩ := i
  refine And.intro (fun hlt => ?_) (fun hge => ?_)
  · have hlt : i < l.length := by have : (i : Int) < (l.length : Int) := of_decide_eq_true hlt
                                  omega
    refine And.intro (show (0 : Int) ≤ (i : Int) ∧ (i : Int) < (l.length : Int) from ⟨by omega, by omega⟩) ?_
    refine Or.inr (Or.inr (Or.inr ⟨[0, 1, 2, 3, 4, 5, 6, 7, 8, 9], [10, 11], [12, 13, 14], [(11, none)], by kernel_rfl, ?_⟩))
    iterate 7 refine ⟨_, ⟨rfl, rfl⟩, fun xs => ⟨rfl, rfl⟩, ?_⟩
    have hg := hl.nth hlt
    refine ⟨.v (.int .u16 (advF f (nth l i))), ⟨.int .u16 (advF f (nth l i)), fun ρ S w hm => advance_c f (nth l i) hg.1 hg.2 _ w ⟨_, rfl, ⟨rfl, rfl, rfl, hm.rd 0 rfl rfl, hm.rd 1 rfl rfl, hm.rd 2 rfl rfl, hm.rd 3 rfl rfl, hm.rd 4 rfl rfl, hm.rd 5 rfl rfl, hm.rd 6 rfl rfl, trivial⟩⟩, rfl, rfl⟩,
      fun xs => ⟨.int .u16 (advF f (nth l i)), fun ρ S w hm => advance_c f (nth l i) hg.1 hg.2 _ w ⟨_, rfl, ⟨rfl, rfl, rfl, hm.rd 0 rfl rfl, hm.rd 1 rfl rfl, hm.rd 2 rfl rfl, hm.rd 3 rfl rfl, hm.rd 4 rfl rfl, hm.rd 5 rfl rfl, hm.rd 6 rfl rfl, trivial⟩⟩, rfl, rfl⟩, ?_⟩
    iterate 2 refine ⟨_, ⟨rfl, rfl⟩, fun xs => ⟨rfl, rfl⟩, ?_⟩
    refine ⟨rfl, fun xs => rfl, ?_⟩
    refine ⟨[startP f (nth l i)], And.intro rfl (And.intro rfl (fun y hy => rfl)), ?_, rfl, fun xs => rfl, ?_⟩
    · show (((l.take i).map (startP f)).length + 1) * 24 ≤ 140737488355328
      rw [List.length_map, List.length_take]; omega
    exact ⟨[0, 1, 2, 3, 4, 5, 6, 7, 8, 9, 10, 14, 12], ⟨i + 1, hlt⟩, And.intro (And.intro (rfl) (And.intro (rfl) (And.intro (rfl) (And.intro (rfl) (And.intro (rfl) (And.intro (rfl) (And.intro (svI (i64_succ i (by omega))) trivial))))))) (And.intro (rfl) (And.intro (rfl) (And.intro (rfl) (And.intro (rfl) (And.intro (rfl) (And.intro (rfl) (And.intro (rfl) (And.intro (rfl) (And.intro (trivial) (And.intro (⟨rfl, rfl⟩) (And.intro (⟨rfl, rfl⟩) (And.intro (congrArg (fun z => Chunk.own 38 Place inferInstance 4 plE z) (takeMap f l i hlt).symm) (And.intro (⟨rfl, rfl⟩) trivial))))))))))))), by show _ - (i + 1) < _ - i; omega⟩
  have hge : i = l.length := by have : ¬ (i : Int) < (l.length : Int) := of_decide_eq_false hge
                                omega
  subst hge
  rw [List.take_length]
  refine ⟨{ n : Nat // n ≤ f.poss.length }, fun n => ⟨88, [⟨1, [], .sl 7⟩, ⟨2, [], .bx 9 0⟩, ⟨5, [], .bx 10 0⟩, ⟨6, [], .bx 12 0⟩, ⟨44, [], .sl 5⟩, ⟨45, [], .v (.int .i64 f.poss.length)⟩, ⟨46, [], .v (.int .i64 n.1)⟩], apC f l (lookF f l n.1), [], dropL nats 13⟩, fun n => f.poss.length - n.1,
    ⟨[0, 1, 2, 3, 4, 5, 6, 7, 8, 9, 10, 11, 12], ⟨0, by omega⟩, ?_⟩, fun n => ?_⟩
  · exact And.intro (And.intro (rfl) (And.intro (rfl) (And.intro (rfl) (And.intro (rfl) (And.intro (rfl) (And.intro (rfl) (And.intro (rfl) trivial))))))) (And.intro (rfl) (And.intro (rfl) (And.intro (rfl) (And.intro (rfl) (And.intro (rfl) (And.intro (rfl) (And.intro (rfl) (And.intro (rfl) (And.intro (trivial) (And.intro (⟨rfl, rfl⟩) (And.intro (⟨rfl, rfl⟩) (And.intro (rfl) (And.intro (⟨rfl, rfl⟩) trivial)))))))))))))
  obtain ⟨n, hn⟩ := n
  refine And.intro (fun hlt => ?_) (fun hge => ?_)
  · have hlt : n < f.poss.length := by have : (n : Int) < (f.poss.length : Int) := of_decide_eq_true hlt
                                       omega
    have hpl := hf.pl
    refine And.intro (show (0 : Int) ≤ (n : Int) ∧ (n : Int) < (f.poss.length : Int) from ⟨by omega, by omega⟩) ?_
    refine Or.inl ⟨.bool (onF f n), fun ρ S w hm => on_c f n hf.fl hf.fk _ w ⟨_, rfl, ⟨rfl, rfl, rfl, hm.rd 0 rfl rfl, hm.rd 1 rfl rfl, hm.rd 2 rfl rfl, hm.rd 3 rfl rfl, hm.rd 4 rfl rfl, hm.rd 5 rfl rfl, hm.rd 6 rfl rfl, trivial⟩⟩, ?_⟩
    refine And.intro (fun hon => ?_) (fun hon => ?_)
    · have hon : (!onF f n) = true := hon
      rw [Bool.not_eq_true'] at hon
      have hL : lookF f l (n + 1) = lookF f l n := by rw [lookF, if_neg (fun h => by rw [hon] at h; cases h)]
      exact ⟨[0, 1, 2, 3, 4, 5, 6, 7, 8, 9, 10, 11, 12], ⟨n + 1, hlt⟩, And.intro (And.intro (rfl) (And.intro (rfl) (And.intro (rfl) (And.intro (rfl) (And.intro (rfl) (And.intro (rfl) (And.intro (svI (i64_succ n (by omega))) trivial))))))) (And.intro (rfl) (And.intro (rfl) (And.intro (rfl) (And.intro (rfl) (And.intro (rfl) (And.intro (rfl) (And.intro (rfl) (And.intro (rfl) (And.intro (trivial) (And.intro (⟨rfl, rfl⟩) (And.intro (⟨rfl, rfl⟩) (And.intro (congrArg (fun z => Chunk.own 38 Place inferInstance 4 plE z) hL.symm) (And.intro (⟨rfl, rfl⟩) trivial))))))))))))), by show _ - (n + 1) < _ - n; omega⟩
    have hon : (!onF f n) = false := hon
    rw [Bool.not_eq_false'] at hon
    have hL : lookF f l (n + 1) = rowF f l (nth f.poss n) l.length (lookF f l n) := by rw [lookF, if_pos hon]
    have hps := hf.ps _ (nth_mem hlt)
    have hks := hf.ks _ (nth_mem hlt)
    have hxl := hf.ll _ (nth_mem hlt)
    by_cases t2 : (nth f.poss n).ty = 2
    · have hT : ∀ s at' o, tryT f l (nth f.poss n) s at' o = kernT f l (nth f.poss n) s at' o := fun s at' o => by unfold tryT; rw [if_pos t2]
      refine Or.inr (lcall_sub [0, 1, 2, 3, 4, 5, 6, 7, 11, 12] (by2_s f l (lookF f l n) _ t2) rfl rfl rfl rfl rfl (And.intro (rfl) (And.intro (rfl) (And.intro (rfl) (And.intro (rfl) (And.intro (rfl) (And.intro (rfl) (And.intro (rfl) (And.intro (rfl) (And.intro (rfl) (And.intro (⟨rfl, rfl⟩) trivial)))))))))) ?_)
      refine ⟨{ k : Nat // k ≤ l.length }, fun k => ⟨88, [⟨1, [], .sl 7⟩, ⟨2, [], .bx 9 0⟩, ⟨5, [], .bx 10 0⟩, ⟨6, [], .bx 12 0⟩, ⟨44, [], .sl 5⟩, ⟨45, [], .v (.int .i64 f.poss.length)⟩, ⟨46, [], .v (.int .i64 n)⟩, ⟨10, [], .bx 15 0⟩, ⟨11, [], .mv 25 [.bx 12 0] []⟩, ⟨60, [], .v (.int .i64 l.length)⟩, ⟨61, [], .v (.int .i64 k.1)⟩],
        apC f l (rowF f l (nth f.poss n) k.1 (lookF f l n)) ++ [.rd Sub inferInstance 7 suE (nth f.poss n).subs, .rd Pos inferInstance 3 poE (nth f.poss n).poss, .bx 56 [.v (.int .u16 (nth f.poss n).ty), .v (.int .u16 (nth f.poss n).flag), .sl 13, .sl 14]], [], dropL nats 16⟩, fun k => l.length - k.1,
        ⟨[0, 1, 2, 3, 4, 5, 6, 7, 8, 9, 10, 11, 12, 13, 14, 15], ⟨0, by omega⟩, ?_⟩, fun k => ?_⟩
      · exact And.intro (And.intro (rfl) (And.intro (rfl) (And.intro (rfl) (And.intro (rfl) (And.intro (rfl) (And.intro (rfl) (And.intro (rfl) (And.intro (rfl) (And.intro (rfl) (And.intro (rfl) (And.intro (rfl) trivial))))))))))) (And.intro (rfl) (And.intro (rfl) (And.intro (rfl) (And.intro (rfl) (And.intro (rfl) (And.intro (rfl) (And.intro (rfl) (And.intro (rfl) (And.intro (trivial) (And.intro (⟨rfl, rfl⟩) (And.intro (⟨rfl, rfl⟩) (And.intro (rfl) (And.intro (⟨rfl, rfl⟩) (And.intro (rfl) (And.intro (rfl) (And.intro (⟨rfl, rfl⟩) trivial))))))))))))))))
      obtain ⟨k, hk⟩ := k
      refine And.intro (fun hklt => ?_) (fun hkge => ?_)
      · have hklt : k < l.length := by have : (k : Int) < (l.length : Int) := of_decide_eq_true hklt
                                       omega
        have hmid := fun i hi => mid_adv hf hl hlt (k := k) (i := i) hi
        have hol : (rowF f l (nth f.poss n) k (lookF f l n)).length = l.length := (hmid k hklt).1
        refine Or.inl ⟨.bool (passF f (nth f.poss n).flag (nth l k)), fun ρ S w hm => passed_c f l (rowF f l (nth f.poss n) k (lookF f l n)) (nth f.poss n).flag k hklt hl _ w (hm.rep 40 (.bx 12 0) _ rfl rfl), ?_⟩
        have hR : rowF f l (nth f.poss n) (k + 1) (lookF f l n) = if passF f (nth f.poss n).flag (nth l k) = true then rowF f l (nth f.poss n) k (lookF f l n) else innerF f l (nth f.poss n) k (nth f.poss n).poss (rowF f l (nth f.poss n) k (lookF f l n)) := rfl
        refine And.intro (fun hp => ?_) (fun hp => ?_)
        · have hp : passF f (nth f.poss n).flag (nth l k) = true := hp
          rw [if_pos hp] at hR
          exact ⟨[0, 1, 2, 3, 4, 5, 6, 7, 8, 9, 10, 11, 12, 13, 14, 15], ⟨k + 1, hklt⟩, And.intro (And.intro (rfl) (And.intro (rfl) (And.intro (rfl) (And.intro (rfl) (And.intro (rfl) (And.intro (rfl) (And.intro (rfl) (And.intro (rfl) (And.intro (rfl) (And.intro (rfl) (And.intro (svI (i64_succ k (by omega))) trivial))))))))))) (And.intro (rfl) (And.intro (rfl) (And.intro (rfl) (And.intro (rfl) (And.intro (rfl) (And.intro (rfl) (And.intro (rfl) (And.intro (rfl) (And.intro (trivial) (And.intro (⟨rfl, rfl⟩) (And.intro (⟨rfl, rfl⟩) (And.intro (congrArg (fun z => Chunk.own 38 Place inferInstance 4 plE z) (hR.symm)) (And.intro (⟨rfl, rfl⟩) (And.intro (rfl) (And.intro (rfl) (And.intro (⟨rfl, rfl⟩) trivial)))))))))))))))), by show _ - (k + 1) < _ - k; omega⟩
        have hp : passF f (nth f.poss n).flag (nth l k) = false := hp
        rw [if_neg (fun h => by rw [hp] at h; cases h)] at hR
        refine ⟨{ q : Nat // q ≤ (nth f.poss n).poss.length ∧ innerF f l (nth f.poss n) k (nth f.poss n).poss (rowF f l (nth f.poss n) k (lookF f l n)) = innerF f l (nth f.poss n) k ((nth f.poss n).poss.drop q) (rowF f l (nth f.poss n) k (lookF f l n)) }, fun q => ⟨88, [⟨1, [], .sl 7⟩, ⟨2, [], .bx 9 0⟩, ⟨5, [], .bx 10 0⟩, ⟨6, [], .bx 12 0⟩, ⟨44, [], .sl 5⟩, ⟨45, [], .v (.int .i64 f.poss.length)⟩, ⟨46, [], .v (.int .i64 n)⟩, ⟨10, [], .bx 15 0⟩, ⟨11, [], .mv 25 [.bx 12 0] []⟩, ⟨60, [], .v (.int .i64 l.length)⟩, ⟨61, [], .v (.int .i64 k)⟩, ⟨12, [], .v (.int .i64 k)⟩, ⟨70, [], .sl 14⟩, ⟨71, [], .v (.int .i64 (nth f.poss n).poss.length)⟩, ⟨72, [], .v (.int .i64 q.1)⟩],
          apC f l (rowF f l (nth f.poss n) k (lookF f l n)) ++ [.rd Sub inferInstance 7 suE (nth f.poss n).subs, .rd Pos inferInstance 3 poE (nth f.poss n).poss, .bx 56 [.v (.int .u16 (nth f.poss n).ty), .v (.int .u16 (nth f.poss n).flag), .sl 13, .sl 14]], [], dropL nats 16⟩, fun q => (nth f.poss n).poss.length - q.1,
          ⟨[0, 1, 2, 3, 4, 5, 6, 7, 8, 9, 10, 11, 12, 13, 14, 15], ⟨0, by omega, rfl⟩, ?_⟩, fun q => ?_⟩
        · exact And.intro (And.intro (rfl) (And.intro (rfl) (And.intro (rfl) (And.intro (rfl) (And.intro (rfl) (And.intro (rfl) (And.intro (rfl) (And.intro (rfl) (And.intro (rfl) (And.intro (rfl) (And.intro (rfl) (And.intro (rfl) (And.intro (rfl) (And.intro (rfl) (And.intro (rfl) trivial))))))))))))))) (And.intro (rfl) (And.intro (rfl) (And.intro (rfl) (And.intro (rfl) (And.intro (rfl) (And.intro (rfl) (And.intro (rfl) (And.intro (rfl) (And.intro (trivial) (And.intro (⟨rfl, rfl⟩) (And.intro (⟨rfl, rfl⟩) (And.intro (rfl) (And.intro (⟨rfl, rfl⟩) (And.intro (rfl) (And.intro (rfl) (And.intro (⟨rfl, rfl⟩) trivial))))))))))))))))
        obtain ⟨q, hq, hall⟩ := q
        refine And.intro (fun hqlt => ?_) (fun hqge => ?_)
        · have hqlt : q < (nth f.poss n).poss.length := by have : (q : Int) < ((nth f.poss n).poss.length : Int) := of_decide_eq_true hqlt
                                                           omega
          rw [innerF_drop _ _ _ _ _ _ q hqlt, hT] at hall
          refine And.intro (show (0 : Int) ≤ (q : Int) ∧ (q : Int) < ((nth f.poss n).poss.length : Int) from ⟨by omega, by omega⟩) ?_
          have hs := hps _ (nth_mem hqlt)
          have hkk := hks _ (nth_mem hqlt)
          refine Or.inr (lcall_sub [0, 1, 2, 3, 4, 5, 6, 7, 11, 12, 13, 14, 16, 17, 18] (kern_s f l (nth f.poss n) (nth (nth f.poss n).poss q) k (rowF f l (nth f.poss n) k (lookF f l n)) hl (by omega) hs.k hklt hol (fun d hd => by
            obtain ⟨kk, hkm, rfl⟩ := kernD_mem hd
            have := hkk.x kk hkm
            have := (hmid k hklt).2
            omega)) rfl rfl rfl rfl rfl (And.intro (rfl) (And.intro (rfl) (And.intro (rfl) (And.intro (rfl) (And.intro (rfl) (And.intro (rfl) (And.intro (rfl) (And.intro (rfl) (And.intro (rfl) (And.intro (⟨rfl, rfl⟩) (And.intro (rfl) (And.intro (rfl) (And.intro (rfl) (And.intro (rfl) (And.intro (rfl) trivial))))))))))))))) ?_)
          refine And.intro (fun hb => ?_) (fun hb => ?_)
          · have hb : (kernT f l (nth f.poss n) (nth (nth f.poss n).poss q) k (rowF f l (nth f.poss n) k (lookF f l n))).1 = true := hb
            rw [if_pos hb] at hall
            exact ⟨[0, 1, 2, 3, 4, 5, 6, 7, 8, 9, 10, 11, 12, 13, 14, 15], ⟨k + 1, hklt⟩, And.intro (And.intro (rfl) (And.intro (rfl) (And.intro (rfl) (And.intro (rfl) (And.intro (rfl) (And.intro (rfl) (And.intro (rfl) (And.intro (rfl) (And.intro (rfl) (And.intro (rfl) (And.intro (svI (i64_succ k (by omega))) trivial))))))))))) (And.intro (rfl) (And.intro (rfl) (And.intro (rfl) (And.intro (rfl) (And.intro (rfl) (And.intro (rfl) (And.intro (rfl) (And.intro (rfl) (And.intro (trivial) (And.intro (⟨rfl, rfl⟩) (And.intro (⟨rfl, rfl⟩) (And.intro (congrArg (fun z => Chunk.own 38 Place inferInstance 4 plE z) (hall.symm.trans hR.symm)) (And.intro (⟨rfl, rfl⟩) (And.intro (rfl) (And.intro (rfl) (And.intro (⟨rfl, rfl⟩) trivial)))))))))))))))), by show _ - (k + 1) < _ - k; omega⟩
          have hb : (kernT f l (nth f.poss n) (nth (nth f.poss n).poss q) k (rowF f l (nth f.poss n) k (lookF f l n))).1 = false := hb
          rw [if_neg (fun h => by rw [hb] at h; cases h)] at hall
          have hsame := tryT_false (f := f) (l := l) (x := nth f.poss n) (s := nth (nth f.poss n).poss q) (at' := k) (o := rowF f l (nth f.poss n) k (lookF f l n)) (by rw [hT]; exact hb)
          rw [hT] at hsame
          exact ⟨[0, 1, 2, 3, 4, 5, 6, 7, 8, 9, 10, 11, 12, 13, 14, 15], ⟨q + 1, hqlt, hall⟩, And.intro (And.intro (rfl) (And.intro (rfl) (And.intro (rfl) (And.intro (rfl) (And.intro (rfl) (And.intro (rfl) (And.intro (rfl) (And.intro (rfl) (And.intro (rfl) (And.intro (rfl) (And.intro (rfl) (And.intro (rfl) (And.intro (rfl) (And.intro (rfl) (And.intro (svI (i64_succ q (by omega))) trivial))))))))))))))) (And.intro (rfl) (And.intro (rfl) (And.intro (rfl) (And.intro (rfl) (And.intro (rfl) (And.intro (rfl) (And.intro (rfl) (And.intro (rfl) (And.intro (trivial) (And.intro (⟨rfl, rfl⟩) (And.intro (⟨rfl, rfl⟩) (And.intro (congrArg (fun z => Chunk.own 38 Place inferInstance 4 plE z) (hsame)) (And.intro (⟨rfl, rfl⟩) (And.intro (rfl) (And.intro (rfl) (And.intro (⟨rfl, rfl⟩) trivial)))))))))))))))), by show _ - (q + 1) < _ - q; omega⟩
        have hqge : q = (nth f.poss n).poss.length := by have : ¬ (q : Int) < ((nth f.poss n).poss.length : Int) := of_decide_eq_false hqge
                                                         omega
        subst hqge
        rw [List.drop_length] at hall
        exact ⟨[0, 1, 2, 3, 4, 5, 6, 7, 8, 9, 10, 11, 12, 13, 14, 15], ⟨k + 1, hklt⟩, And.intro (And.intro (rfl) (And.intro (rfl) (And.intro (rfl) (And.intro (rfl) (And.intro (rfl) (And.intro (rfl) (And.intro (rfl) (And.intro (rfl) (And.intro (rfl) (And.intro (rfl) (And.intro (svI (i64_succ k (by omega))) trivial))))))))))) (And.intro (rfl) (And.intro (rfl) (And.intro (rfl) (And.intro (rfl) (And.intro (rfl) (And.intro (rfl) (And.intro (rfl) (And.intro (rfl) (And.intro (trivial) (And.intro (⟨rfl, rfl⟩) (And.intro (⟨rfl, rfl⟩) (And.intro (congrArg (fun z => Chunk.own 38 Place inferInstance 4 plE z) (hall.symm.trans hR.symm)) (And.intro (⟨rfl, rfl⟩) (And.intro (rfl) (And.intro (rfl) (And.intro (⟨rfl, rfl⟩) trivial)))))))))))))))), by show _ - (k + 1) < _ - k; omega⟩
      have hkge : k = l.length := by have : ¬ (k : Int) < (l.length : Int) := of_decide_eq_false hkge
                                     omega
      subst hkge
      exact ⟨[0, 1, 2, 3, 4, 5, 6, 7, 8, 9, 10, 11, 12], ⟨n + 1, hlt⟩, And.intro (And.intro (rfl) (And.intro (rfl) (And.intro (rfl) (And.intro (rfl) (And.intro (rfl) (And.intro (rfl) (And.intro (svI (i64_succ n (by omega))) trivial))))))) (And.intro (rfl) (And.intro (rfl) (And.intro (rfl) (And.intro (rfl) (And.intro (rfl) (And.intro (rfl) (And.intro (rfl) (And.intro (rfl) (And.intro (trivial) (And.intro (⟨rfl, rfl⟩) (And.intro (⟨rfl, rfl⟩) (And.intro (congrArg (fun z => Chunk.own 38 Place inferInstance 4 plE z) (hL.symm)) (And.intro (⟨rfl, rfl⟩) trivial))))))))))))), by show _ - (n + 1) < _ - n; omega⟩
    by_cases t4 : (nth f.poss n).ty = 4
    · have hT : ∀ s at' o, tryT f l (nth f.poss n) s at' o = baseT f l (nth f.poss n) s at' o := fun s at' o => by unfold tryT; rw [if_neg t2, if_pos t4]
      refine Or.inr (lcall_sub [0, 1, 2, 3, 4, 5, 6, 7, 11, 12] (by4_s f l (lookF f l n) _ t4) rfl rfl rfl rfl rfl (And.intro (rfl) (And.intro (rfl) (And.intro (rfl) (And.intro (rfl) (And.intro (rfl) (And.intro (rfl) (And.intro (rfl) (And.intro (rfl) (And.intro (rfl) (And.intro (⟨rfl, rfl⟩) trivial)))))))))) ?_)
      refine ⟨{ k : Nat // k ≤ l.length }, fun k => ⟨88, [⟨1, [], .sl 7⟩, ⟨2, [], .bx 9 0⟩, ⟨5, [], .bx 10 0⟩, ⟨6, [], .bx 12 0⟩, ⟨44, [], .sl 5⟩, ⟨45, [], .v (.int .i64 f.poss.length)⟩, ⟨46, [], .v (.int .i64 n)⟩, ⟨10, [], .bx 15 0⟩, ⟨11, [], .mv 26 [.bx 12 0] []⟩, ⟨60, [], .v (.int .i64 l.length)⟩, ⟨61, [], .v (.int .i64 k.1)⟩],
        apC f l (rowF f l (nth f.poss n) k.1 (lookF f l n)) ++ [.rd Sub inferInstance 7 suE (nth f.poss n).subs, .rd Pos inferInstance 3 poE (nth f.poss n).poss, .bx 56 [.v (.int .u16 (nth f.poss n).ty), .v (.int .u16 (nth f.poss n).flag), .sl 13, .sl 14]], [], dropL nats 16⟩, fun k => l.length - k.1,
        ⟨[0, 1, 2, 3, 4, 5, 6, 7, 8, 9, 10, 11, 12, 13, 14, 15], ⟨0, by omega⟩, ?_⟩, fun k => ?_⟩
      · exact And.intro (And.intro (rfl) (And.intro (rfl) (And.intro (rfl) (And.intro (rfl) (And.intro (rfl) (And.intro (rfl) (And.intro (rfl) (And.intro (rfl) (And.intro (rfl) (And.intro (rfl) (And.intro (rfl) trivial))))))))))) (And.intro (rfl) (And.intro (rfl) (And.intro (rfl) (And.intro (rfl) (And.intro (rfl) (And.intro (rfl) (And.intro (rfl) (And.intro (rfl) (And.intro (trivial) (And.intro (⟨rfl, rfl⟩) (And.intro (⟨rfl, rfl⟩) (And.intro (rfl) (And.intro (⟨rfl, rfl⟩) (And.intro (rfl) (And.intro (rfl) (And.intro (⟨rfl, rfl⟩) trivial))))))))))))))))
      obtain ⟨k, hk⟩ := k
      refine And.intro (fun hklt => ?_) (fun hkge => ?_)
      · have hklt : k < l.length := by have : (k : Int) < (l.length : Int) := of_decide_eq_true hklt
                                       omega
        have hmid := fun i hi => mid_adv hf hl hlt (k := k) (i := i) hi
        have hol : (rowF f l (nth f.poss n) k (lookF f l n)).length = l.length := (hmid k hklt).1
        refine Or.inl ⟨.bool (passF f (nth f.poss n).flag (nth l k)), fun ρ S w hm => passed_c f l (rowF f l (nth f.poss n) k (lookF f l n)) (nth f.poss n).flag k hklt hl _ w (hm.rep 40 (.bx 12 0) _ rfl rfl), ?_⟩
        have hR : rowF f l (nth f.poss n) (k + 1) (lookF f l n) = if passF f (nth f.poss n).flag (nth l k) = true then rowF f l (nth f.poss n) k (lookF f l n) else innerF f l (nth f.poss n) k (nth f.poss n).poss (rowF f l (nth f.poss n) k (lookF f l n)) := rfl
        refine And.intro (fun hp => ?_) (fun hp => ?_)
        · have hp : passF f (nth f.poss n).flag (nth l k) = true := hp
          rw [if_pos hp] at hR
          exact ⟨[0, 1, 2, 3, 4, 5, 6, 7, 8, 9, 10, 11, 12, 13, 14, 15], ⟨k + 1, hklt⟩, And.intro (And.intro (rfl) (And.intro (rfl) (And.intro (rfl) (And.intro (rfl) (And.intro (rfl) (And.intro (rfl) (And.intro (rfl) (And.intro (rfl) (And.intro (rfl) (And.intro (rfl) (And.intro (svI (i64_succ k (by omega))) trivial))))))))))) (And.intro (rfl) (And.intro (rfl) (And.intro (rfl) (And.intro (rfl) (And.intro (rfl) (And.intro (rfl) (And.intro (rfl) (And.intro (rfl) (And.intro (trivial) (And.intro (⟨rfl, rfl⟩) (And.intro (⟨rfl, rfl⟩) (And.intro (congrArg (fun z => Chunk.own 38 Place inferInstance 4 plE z) (hR.symm)) (And.intro (⟨rfl, rfl⟩) (And.intro (rfl) (And.intro (rfl) (And.intro (⟨rfl, rfl⟩) trivial)))))))))))))))), by show _ - (k + 1) < _ - k; omega⟩
        have hp : passF f (nth f.poss n).flag (nth l k) = false := hp
        rw [if_neg (fun h => by rw [hp] at h; cases h)] at hR
        refine ⟨{ q : Nat // q ≤ (nth f.poss n).poss.length ∧ innerF f l (nth f.poss n) k (nth f.poss n).poss (rowF f l (nth f.poss n) k (lookF f l n)) = innerF f l (nth f.poss n) k ((nth f.poss n).poss.drop q) (rowF f l (nth f.poss n) k (lookF f l n)) }, fun q => ⟨88, [⟨1, [], .sl 7⟩, ⟨2, [], .bx 9 0⟩, ⟨5, [], .bx 10 0⟩, ⟨6, [], .bx 12 0⟩, ⟨44, [], .sl 5⟩, ⟨45, [], .v (.int .i64 f.poss.length)⟩, ⟨46, [], .v (.int .i64 n)⟩, ⟨10, [], .bx 15 0⟩, ⟨11, [], .mv 26 [.bx 12 0] []⟩, ⟨60, [], .v (.int .i64 l.length)⟩, ⟨61, [], .v (.int .i64 k)⟩, ⟨12, [], .v (.int .i64 k)⟩, ⟨70, [], .sl 14⟩, ⟨71, [], .v (.int .i64 (nth f.poss n).poss.length)⟩, ⟨72, [], .v (.int .i64 q.1)⟩],
          apC f l (rowF f l (nth f.poss n) k (lookF f l n)) ++ [.rd Sub inferInstance 7 suE (nth f.poss n).subs, .rd Pos inferInstance 3 poE (nth f.poss n).poss, .bx 56 [.v (.int .u16 (nth f.poss n).ty), .v (.int .u16 (nth f.poss n).flag), .sl 13, .sl 14]], [], dropL nats 16⟩, fun q => (nth f.poss n).poss.length - q.1,
          ⟨[0, 1, 2, 3, 4, 5, 6, 7, 8, 9, 10, 11, 12, 13, 14, 15], ⟨0, by omega, rfl⟩, ?_⟩, fun q => ?_⟩
        · exact And.intro (And.intro (rfl) (And.intro (rfl) (And.intro (rfl) (And.intro (rfl) (And.intro (rfl) (And.intro (rfl) (And.intro (rfl) (And.intro (rfl) (And.intro (rfl) (And.intro (rfl) (And.intro (rfl) (And.intro (rfl) (And.intro (rfl) (And.intro (rfl) (And.intro (rfl) trivial))))))))))))))) (And.intro (rfl) (And.intro (rfl) (And.intro (rfl) (And.intro (rfl) (And.intro (rfl) (And.intro (rfl) (And.intro (rfl) (And.intro (rfl) (And.intro (trivial) (And.intro (⟨rfl, rfl⟩) (And.intro (⟨rfl, rfl⟩) (And.intro (rfl) (And.intro (⟨rfl, rfl⟩) (And.intro (rfl) (And.intro (rfl) (And.intro (⟨rfl, rfl⟩) trivial))))))))))))))))
        obtain ⟨q, hq, hall⟩ := q
        refine And.intro (fun hqlt => ?_) (fun hqge => ?_)
        · have hqlt : q < (nth f.poss n).poss.length := by have : (q : Int) < ((nth f.poss n).poss.length : Int) := of_decide_eq_true hqlt
                                                           omega
          rw [innerF_drop _ _ _ _ _ _ q hqlt, hT] at hall
          refine And.intro (show (0 : Int) ≤ (q : Int) ∧ (q : Int) < ((nth f.poss n).poss.length : Int) from ⟨by omega, by omega⟩) ?_
          have hs := hps _ (nth_mem hqlt)
          have hkk := hks _ (nth_mem hqlt)
          refine Or.inr (lcall_sub [0, 1, 2, 3, 4, 5, 6, 7, 11, 12, 13, 14, 16, 17, 18] (base_s f l (nth f.poss n) (nth (nth f.poss n).poss q) k (rowF f l (nth f.poss n) k (lookF f l n)) hl (by omega) hs hklt hol) rfl rfl rfl rfl rfl (And.intro (rfl) (And.intro (rfl) (And.intro (rfl) (And.intro (rfl) (And.intro (rfl) (And.intro (rfl) (And.intro (rfl) (And.intro (rfl) (And.intro (rfl) (And.intro (⟨rfl, rfl⟩) (And.intro (rfl) (And.intro (rfl) (And.intro (rfl) (And.intro (rfl) (And.intro (rfl) trivial))))))))))))))) ?_)
          refine And.intro (fun hb => ?_) (fun hb => ?_)
          · have hb : (baseT f l (nth f.poss n) (nth (nth f.poss n).poss q) k (rowF f l (nth f.poss n) k (lookF f l n))).1 = true := hb
            rw [if_pos hb] at hall
            exact ⟨[0, 1, 2, 3, 4, 5, 6, 7, 8, 9, 10, 11, 12, 13, 14, 15], ⟨k + 1, hklt⟩, And.intro (And.intro (rfl) (And.intro (rfl) (And.intro (rfl) (And.intro (rfl) (And.intro (rfl) (And.intro (rfl) (And.intro (rfl) (And.intro (rfl) (And.intro (rfl) (And.intro (rfl) (And.intro (svI (i64_succ k (by omega))) trivial))))))))))) (And.intro (rfl) (And.intro (rfl) (And.intro (rfl) (And.intro (rfl) (And.intro (rfl) (And.intro (rfl) (And.intro (rfl) (And.intro (rfl) (And.intro (trivial) (And.intro (⟨rfl, rfl⟩) (And.intro (⟨rfl, rfl⟩) (And.intro (congrArg (fun z => Chunk.own 38 Place inferInstance 4 plE z) (hall.symm.trans hR.symm)) (And.intro (⟨rfl, rfl⟩) (And.intro (rfl) (And.intro (rfl) (And.intro (⟨rfl, rfl⟩) trivial)))))))))))))))), by show _ - (k + 1) < _ - k; omega⟩
          have hb : (baseT f l (nth f.poss n) (nth (nth f.poss n).poss q) k (rowF f l (nth f.poss n) k (lookF f l n))).1 = false := hb
          rw [if_neg (fun h => by rw [hb] at h; cases h)] at hall
          have hsame := tryT_false (f := f) (l := l) (x := nth f.poss n) (s := nth (nth f.poss n).poss q) (at' := k) (o := rowF f l (nth f.poss n) k (lookF f l n)) (by rw [hT]; exact hb)
          rw [hT] at hsame
          exact ⟨[0, 1, 2, 3, 4, 5, 6, 7, 8, 9, 10, 11, 12, 13, 14, 15], ⟨q + 1, hqlt, hall⟩, And.intro (And.intro (rfl) (And.intro (rfl) (And.intro (rfl) (And.intro (rfl) (And.intro (rfl) (And.intro (rfl) (And.intro (rfl) (And.intro (rfl) (And.intro (rfl) (And.intro (rfl) (And.intro (rfl) (And.intro (rfl) (And.intro (rfl) (And.intro (rfl) (And.intro (svI (i64_succ q (by omega))) trivial))))))))))))))) (And.intro (rfl) (And.intro (rfl) (And.intro (rfl) (And.intro (rfl) (And.intro (rfl) (And.intro (rfl) (And.intro (rfl) (And.intro (rfl) (And.intro (trivial) (And.intro (⟨rfl, rfl⟩) (And.intro (⟨rfl, rfl⟩) (And.intro (congrArg (fun z => Chunk.own 38 Place inferInstance 4 plE z) (hsame)) (And.intro (⟨rfl, rfl⟩) (And.intro (rfl) (And.intro (rfl) (And.intro (⟨rfl, rfl⟩) trivial)))))))))))))))), by show _ - (q + 1) < _ - q; omega⟩
        have hqge : q = (nth f.poss n).poss.length := by have : ¬ (q : Int) < ((nth f.poss n).poss.length : Int) := of_decide_eq_false hqge
                                                         omega
        subst hqge
        rw [List.drop_length] at hall
        exact ⟨[0, 1, 2, 3, 4, 5, 6, 7, 8, 9, 10, 11, 12, 13, 14, 15], ⟨k + 1, hklt⟩, And.intro (And.intro (rfl) (And.intro (rfl) (And.intro (rfl) (And.intro (rfl) (And.intro (rfl) (And.intro (rfl) (And.intro (rfl) (And.intro (rfl) (And.intro (rfl) (And.intro (rfl) (And.intro (svI (i64_succ k (by omega))) trivial))))))))))) (And.intro (rfl) (And.intro (rfl) (And.intro (rfl) (And.intro (rfl) (And.intro (rfl) (And.intro (rfl) (And.intro (rfl) (And.intro (rfl) (And.intro (trivial) (And.intro (⟨rfl, rfl⟩) (And.intro (⟨rfl, rfl⟩) (And.intro (congrArg (fun z => Chunk.own 38 Place inferInstance 4 plE z) (hall.symm.trans hR.symm)) (And.intro (⟨rfl, rfl⟩) (And.intro (rfl) (And.intro (rfl) (And.intro (⟨rfl, rfl⟩) trivial)))))))))))))))), by show _ - (k + 1) < _ - k; omega⟩
      have hkge : k = l.length := by have : ¬ (k : Int) < (l.length : Int) := of_decide_eq_false hkge
                                     omega
      subst hkge
      exact ⟨[0, 1, 2, 3, 4, 5, 6, 7, 8, 9, 10, 11, 12], ⟨n + 1, hlt⟩, And.intro (And.intro (rfl) (And.intro (rfl) (And.intro (rfl) (And.intro (rfl) (And.intro (rfl) (And.intro (rfl) (And.intro (svI (i64_succ n (by omega))) trivial))))))) (And.intro (rfl) (And.intro (rfl) (And.intro (rfl) (And.intro (rfl) (And.intro (rfl) (And.intro (rfl) (And.intro (rfl) (And.intro (rfl) (And.intro (trivial) (And.intro (⟨rfl, rfl⟩) (And.intro (⟨rfl, rfl⟩) (And.intro (congrArg (fun z => Chunk.own 38 Place inferInstance 4 plE z) (hL.symm)) (And.intro (⟨rfl, rfl⟩) trivial))))))))))))), by show _ - (n + 1) < _ - n; omega⟩
    by_cases t6 : (nth f.poss n).ty = 6
    · have hT : ∀ s at' o, tryT f l (nth f.poss n) s at' o = markT f l (nth f.poss n) s at' o := fun s at' o => by unfold tryT; rw [if_neg t2, if_neg t4, if_pos t6]
      refine Or.inr (lcall_sub [0, 1, 2, 3, 4, 5, 6, 7, 11, 12] (by6_s f l (lookF f l n) _ t6) rfl rfl rfl rfl rfl (And.intro (rfl) (And.intro (rfl) (And.intro (rfl) (And.intro (rfl) (And.intro (rfl) (And.intro (rfl) (And.intro (rfl) (And.intro (rfl) (And.intro (rfl) (And.intro (⟨rfl, rfl⟩) trivial)))))))))) ?_)
      refine ⟨{ k : Nat // k ≤ l.length }, fun k => ⟨88, [⟨1, [], .sl 7⟩, ⟨2, [], .bx 9 0⟩, ⟨5, [], .bx 10 0⟩, ⟨6, [], .bx 12 0⟩, ⟨44, [], .sl 5⟩, ⟨45, [], .v (.int .i64 f.poss.length)⟩, ⟨46, [], .v (.int .i64 n)⟩, ⟨10, [], .bx 15 0⟩, ⟨11, [], .mv 27 [.bx 12 0] []⟩, ⟨60, [], .v (.int .i64 l.length)⟩, ⟨61, [], .v (.int .i64 k.1)⟩],
        apC f l (rowF f l (nth f.poss n) k.1 (lookF f l n)) ++ [.rd Sub inferInstance 7 suE (nth f.poss n).subs, .rd Pos inferInstance 3 poE (nth f.poss n).poss, .bx 56 [.v (.int .u16 (nth f.poss n).ty), .v (.int .u16 (nth f.poss n).flag), .sl 13, .sl 14]], [], dropL nats 16⟩, fun k => l.length - k.1,
        ⟨[0, 1, 2, 3, 4, 5, 6, 7, 8, 9, 10, 11, 12, 13, 14, 15], ⟨0, by omega⟩, ?_⟩, fun k => ?_⟩
      · exact And.intro (And.intro (rfl) (And.intro (rfl) (And.intro (rfl) (And.intro (rfl) (And.intro (rfl) (And.intro (rfl) (And.intro (rfl) (And.intro (rfl) (And.intro (rfl) (And.intro (rfl) (And.intro (rfl) trivial))))))))))) (And.intro (rfl) (And.intro (rfl) (And.intro (rfl) (And.intro (rfl) (And.intro (rfl) (And.intro (rfl) (And.intro (rfl) (And.intro (rfl) (And.intro (trivial) (And.intro (⟨rfl, rfl⟩) (And.intro (⟨rfl, rfl⟩) (And.intro (rfl) (And.intro (⟨rfl, rfl⟩) (And.intro (rfl) (And.intro (rfl) (And.intro (⟨rfl, rfl⟩) trivial))))))))))))))))
      obtain ⟨k, hk⟩ := k
      refine And.intro (fun hklt => ?_) (fun hkge => ?_)
      · have hklt : k < l.length := by have : (k : Int) < (l.length : Int) := of_decide_eq_true hklt
                                       omega
        have hmid := fun i hi => mid_adv hf hl hlt (k := k) (i := i) hi
        have hol : (rowF f l (nth f.poss n) k (lookF f l n)).length = l.length := (hmid k hklt).1
        refine Or.inl ⟨.bool (passF f (nth f.poss n).flag (nth l k)), fun ρ S w hm => passed_c f l (rowF f l (nth f.poss n) k (lookF f l n)) (nth f.poss n).flag k hklt hl _ w (hm.rep 40 (.bx 12 0) _ rfl rfl), ?_⟩
        have hR : rowF f l (nth f.poss n) (k + 1) (lookF f l n) = if passF f (nth f.poss n).flag (nth l k) = true then rowF f l (nth f.poss n) k (lookF f l n) else innerF f l (nth f.poss n) k (nth f.poss n).poss (rowF f l (nth f.poss n) k (lookF f l n)) := rfl
        refine And.intro (fun hp => ?_) (fun hp => ?_)
        · have hp : passF f (nth f.poss n).flag (nth l k) = true := hp
          rw [if_pos hp] at hR
          exact ⟨[0, 1, 2, 3, 4, 5, 6, 7, 8, 9, 10, 11, 12, 13, 14, 15], ⟨k + 1, hklt⟩, And.intro (And.intro (rfl) (And.intro (rfl) (And.intro (rfl) (And.intro (rfl) (And.intro (rfl) (And.intro (rfl) (And.intro (rfl) (And.intro (rfl) (And.intro (rfl) (And.intro (rfl) (And.intro (svI (i64_succ k (by omega))) trivial))))))))))) (And.intro (rfl) (And.intro (rfl) (And.intro (rfl) (And.intro (rfl) (And.intro (rfl) (And.intro (rfl) (And.intro (rfl) (And.intro (rfl) (And.intro (trivial) (And.intro (⟨rfl, rfl⟩) (And.intro (⟨rfl, rfl⟩) (And.intro (congrArg (fun z => Chunk.own 38 Place inferInstance 4 plE z) (hR.symm)) (And.intro (⟨rfl, rfl⟩) (And.intro (rfl) (And.intro (rfl) (And.intro (⟨rfl, rfl⟩) trivial)))))))))))))))), by show _ - (k + 1) < _ - k; omega⟩
        have hp : passF f (nth f.poss n).flag (nth l k) = false := hp
        rw [if_neg (fun h => by rw [hp] at h; cases h)] at hR
        refine ⟨{ q : Nat // q ≤ (nth f.poss n).poss.length ∧ innerF f l (nth f.poss n) k (nth f.poss n).poss (rowF f l (nth f.poss n) k (lookF f l n)) = innerF f l (nth f.poss n) k ((nth f.poss n).poss.drop q) (rowF f l (nth f.poss n) k (lookF f l n)) }, fun q => ⟨88, [⟨1, [], .sl 7⟩, ⟨2, [], .bx 9 0⟩, ⟨5, [], .bx 10 0⟩, ⟨6, [], .bx 12 0⟩, ⟨44, [], .sl 5⟩, ⟨45, [], .v (.int .i64 f.poss.length)⟩, ⟨46, [], .v (.int .i64 n)⟩, ⟨10, [], .bx 15 0⟩, ⟨11, [], .mv 27 [.bx 12 0] []⟩, ⟨60, [], .v (.int .i64 l.length)⟩, ⟨61, [], .v (.int .i64 k)⟩, ⟨12, [], .v (.int .i64 k)⟩, ⟨70, [], .sl 14⟩, ⟨71, [], .v (.int .i64 (nth f.poss n).poss.length)⟩, ⟨72, [], .v (.int .i64 q.1)⟩],
          apC f l (rowF f l (nth f.poss n) k (lookF f l n)) ++ [.rd Sub inferInstance 7 suE (nth f.poss n).subs, .rd Pos inferInstance 3 poE (nth f.poss n).poss, .bx 56 [.v (.int .u16 (nth f.poss n).ty), .v (.int .u16 (nth f.poss n).flag), .sl 13, .sl 14]], [], dropL nats 16⟩, fun q => (nth f.poss n).poss.length - q.1,
          ⟨[0, 1, 2, 3, 4, 5, 6, 7, 8, 9, 10, 11, 12, 13, 14, 15], ⟨0, by omega, rfl⟩, ?_⟩, fun q => ?_⟩
        · exact And.intro (And.intro (rfl) (And.intro (rfl) (And.intro (rfl) (And.intro (rfl) (And.intro (rfl) (And.intro (rfl) (And.intro (rfl) (And.intro (rfl) (And.intro (rfl) (And.intro (rfl) (And.intro (rfl) (And.intro (rfl) (And.intro (rfl) (And.intro (rfl) (And.intro (rfl) trivial))))))))))))))) (And.intro (rfl) (And.intro (rfl) (And.intro (rfl) (And.intro (rfl) (And.intro (rfl) (And.intro (rfl) (And.intro (rfl) (And.intro (rfl) (And.intro (trivial) (And.intro (⟨rfl, rfl⟩) (And.intro (⟨rfl, rfl⟩) (And.intro (rfl) (And.intro (⟨rfl, rfl⟩) (And.intro (rfl) (And.intro (rfl) (And.intro (⟨rfl, rfl⟩) trivial))))))))))))))))
        obtain ⟨q, hq, hall⟩ := q
        refine And.intro (fun hqlt => ?_) (fun hqge => ?_)
        · have hqlt : q < (nth f.poss n).poss.length := by have : (q : Int) < ((nth f.poss n).poss.length : Int) := of_decide_eq_true hqlt
                                                           omega
          rw [innerF_drop _ _ _ _ _ _ q hqlt, hT] at hall
          refine And.intro (show (0 : Int) ≤ (q : Int) ∧ (q : Int) < ((nth f.poss n).poss.length : Int) from ⟨by omega, by omega⟩) ?_
          have hs := hps _ (nth_mem hqlt)
          have hkk := hks _ (nth_mem hqlt)
          refine Or.inr (lcall_sub [0, 1, 2, 3, 4, 5, 6, 7, 11, 12, 13, 14, 16, 17, 18] (mark_s f l (nth f.poss n) (nth (nth f.poss n).poss q) k (rowF f l (nth f.poss n) k (lookF f l n)) hl (by omega) hs hklt hol) rfl rfl rfl rfl rfl (And.intro (rfl) (And.intro (rfl) (And.intro (rfl) (And.intro (rfl) (And.intro (rfl) (And.intro (rfl) (And.intro (rfl) (And.intro (rfl) (And.intro (rfl) (And.intro (⟨rfl, rfl⟩) (And.intro (rfl) (And.intro (rfl) (And.intro (rfl) (And.intro (rfl) (And.intro (rfl) trivial))))))))))))))) ?_)
          refine And.intro (fun hb => ?_) (fun hb => ?_)
          · have hb : (markT f l (nth f.poss n) (nth (nth f.poss n).poss q) k (rowF f l (nth f.poss n) k (lookF f l n))).1 = true := hb
            rw [if_pos hb] at hall
            exact ⟨[0, 1, 2, 3, 4, 5, 6, 7, 8, 9, 10, 11, 12, 13, 14, 15], ⟨k + 1, hklt⟩, And.intro (And.intro (rfl) (And.intro (rfl) (And.intro (rfl) (And.intro (rfl) (And.intro (rfl) (And.intro (rfl) (And.intro (rfl) (And.intro (rfl) (And.intro (rfl) (And.intro (rfl) (And.intro (svI (i64_succ k (by omega))) trivial))))))))))) (And.intro (rfl) (And.intro (rfl) (And.intro (rfl) (And.intro (rfl) (And.intro (rfl) (And.intro (rfl) (And.intro (rfl) (And.intro (rfl) (And.intro (trivial) (And.intro (⟨rfl, rfl⟩) (And.intro (⟨rfl, rfl⟩) (And.intro (congrArg (fun z => Chunk.own 38 Place inferInstance 4 plE z) (hall.symm.trans hR.symm)) (And.intro (⟨rfl, rfl⟩) (And.intro (rfl) (And.intro (rfl) (And.intro (⟨rfl, rfl⟩) trivial)))))))))))))))), by show _ - (k + 1) < _ - k; omega⟩
          have hb : (markT f l (nth f.poss n) (nth (nth f.poss n).poss q) k (rowF f l (nth f.poss n) k (lookF f l n))).1 = false := hb
          rw [if_neg (fun h => by rw [hb] at h; cases h)] at hall
          have hsame := tryT_false (f := f) (l := l) (x := nth f.poss n) (s := nth (nth f.poss n).poss q) (at' := k) (o := rowF f l (nth f.poss n) k (lookF f l n)) (by rw [hT]; exact hb)
          rw [hT] at hsame
          exact ⟨[0, 1, 2, 3, 4, 5, 6, 7, 8, 9, 10, 11, 12, 13, 14, 15], ⟨q + 1, hqlt, hall⟩, And.intro (And.intro (rfl) (And.intro (rfl) (And.intro (rfl) (And.intro (rfl) (And.intro (rfl) (And.intro (rfl) (And.intro (rfl) (And.intro (rfl) (And.intro (rfl) (And.intro (rfl) (And.intro (rfl) (And.intro (rfl) (And.intro (rfl) (And.intro (rfl) (And.intro (svI (i64_succ q (by omega))) trivial))))))))))))))) (And.intro (rfl) (And.intro (rfl) (And.intro (rfl) (And.intro (rfl) (And.intro (rfl) (And.intro (rfl) (And.intro (rfl) (And.intro (rfl) (And.intro (trivial) (And.intro (⟨rfl, rfl⟩) (And.intro (⟨rfl, rfl⟩) (And.intro (congrArg (fun z => Chunk.own 38 Place inferInstance 4 plE z) (hsame)) (And.intro (⟨rfl, rfl⟩) (And.intro (rfl) (And.intro (rfl) (And.intro (⟨rfl, rfl⟩) trivial)))))))))))))))), by show _ - (q + 1) < _ - q; omega⟩
        have hqge : q = (nth f.poss n).poss.length := by have : ¬ (q : Int) < ((nth f.poss n).poss.length : Int) := of_decide_eq_false hqge
                                                         omega
        subst hqge
        rw [List.drop_length] at hall
        exact ⟨[0, 1, 2, 3, 4, 5, 6, 7, 8, 9, 10, 11, 12, 13, 14, 15], ⟨k + 1, hklt⟩, And.intro (And.intro (rfl) (And.intro (rfl) (And.intro (rfl) (And.intro (rfl) (And.intro (rfl) (And.intro (rfl) (And.intro (rfl) (And.intro (rfl) (And.intro (rfl) (And.intro (rfl) (And.intro (svI (i64_succ k (by omega))) trivial))))))))))) (And.intro (rfl) (And.intro (rfl) (And.intro (rfl) (And.intro (rfl) (And.intro (rfl) (And.intro (rfl) (And.intro (rfl) (And.intro (rfl) (And.intro (trivial) (And.intro (⟨rfl, rfl⟩) (And.intro (⟨rfl, rfl⟩) (And.intro (congrArg (fun z => Chunk.own 38 Place inferInstance 4 plE z) (hall.symm.trans hR.symm)) (And.intro (⟨rfl, rfl⟩) (And.intro (rfl) (And.intro (rfl) (And.intro (⟨rfl, rfl⟩) trivial)))))))))))))))), by show _ - (k + 1) < _ - k; omega⟩
      have hkge : k = l.length := by have : ¬ (k : Int) < (l.length : Int) := of_decide_eq_false hkge
                                     omega
      subst hkge
      exact ⟨[0, 1, 2, 3, 4, 5, 6, 7, 8, 9, 10, 11, 12], ⟨n + 1, hlt⟩, And.intro (And.intro (rfl) (And.intro (rfl) (And.intro (rfl) (And.intro (rfl) (And.intro (rfl) (And.intro (rfl) (And.intro (svI (i64_succ n (by omega))) trivial))))))) (And.intro (rfl) (And.intro (rfl) (And.intro (rfl) (And.intro (rfl) (And.intro (rfl) (And.intro (rfl) (And.intro (rfl) (And.intro (rfl) (And.intro (trivial) (And.intro (⟨rfl, rfl⟩) (And.intro (⟨rfl, rfl⟩) (And.intro (congrArg (fun z => Chunk.own 38 Place inferInstance 4 plE z) (hL.symm)) (And.intro (⟨rfl, rfl⟩) trivial))))))))))))), by show _ - (n + 1) < _ - n; omega⟩
    have hT : ∀ s at' o, tryT f l (nth f.poss n) s at' o = noT s at' o := fun s at' o => by unfold tryT; rw [if_neg t2, if_neg t4, if_neg t6]; rfl
    refine Or.inr (lcall_sub [0, 1, 2, 3, 4, 5, 6, 7, 11, 12] (byN_s f l (lookF f l n) _ t2 t4 t6) rfl rfl rfl rfl rfl (And.intro (rfl) (And.intro (rfl) (And.intro (rfl) (And.intro (rfl) (And.intro (rfl) (And.intro (rfl) (And.intro (rfl) (And.intro (rfl) (And.intro (rfl) (And.intro (⟨rfl, rfl⟩) trivial)))))))))) ?_)
    refine ⟨{ k : Nat // k ≤ l.length }, fun k => ⟨88, [⟨1, [], .sl 7⟩, ⟨2, [], .bx 9 0⟩, ⟨5, [], .bx 10 0⟩, ⟨6, [], .bx 12 0⟩, ⟨44, [], .sl 5⟩, ⟨45, [], .v (.int .i64 f.poss.length)⟩, ⟨46, [], .v (.int .i64 n)⟩, ⟨10, [], .bx 15 0⟩, ⟨11, [], .v (.func (.func 28) #[] #[])⟩, ⟨60, [], .v (.int .i64 l.length)⟩, ⟨61, [], .v (.int .i64 k.1)⟩],
      apC f l (rowF f l (nth f.poss n) k.1 (lookF f l n)) ++ [.rd Sub inferInstance 7 suE (nth f.poss n).subs, .rd Pos inferInstance 3 poE (nth f.poss n).poss, .bx 56 [.v (.int .u16 (nth f.poss n).ty), .v (.int .u16 (nth f.poss n).flag), .sl 13, .sl 14]], [], dropL nats 16⟩, fun k => l.length - k.1,
      ⟨[0, 1, 2, 3, 4, 5, 6, 7, 8, 9, 10, 11, 12, 13, 14, 15], ⟨0, by omega⟩, ?_⟩, fun k => ?_⟩
    · exact And.intro (And.intro (rfl) (And.intro (rfl) (And.intro (rfl) (And.intro (rfl) (And.intro (rfl) (And.intro (rfl) (And.intro (rfl) (And.intro (rfl) (And.intro (rfl) (And.intro (rfl) (And.intro (rfl) trivial))))))))))) (And.intro (rfl) (And.intro (rfl) (And.intro (rfl) (And.intro (rfl) (And.intro (rfl) (And.intro (rfl) (And.intro (rfl) (And.intro (rfl) (And.intro (trivial) (And.intro (⟨rfl, rfl⟩) (And.intro (⟨rfl, rfl⟩) (And.intro (rfl) (And.intro (⟨rfl, rfl⟩) (And.intro (rfl) (And.intro (rfl) (And.intro (⟨rfl, rfl⟩) trivial))))))))))))))))
    obtain ⟨k, hk⟩ := k
    refine And.intro (fun hklt => ?_) (fun hkge => ?_)
    · have hklt : k < l.length := by have : (k : Int) < (l.length : Int) := of_decide_eq_true hklt
                                     omega
      have hmid := fun i hi => mid_adv hf hl hlt (k := k) (i := i) hi
      have hol : (rowF f l (nth f.poss n) k (lookF f l n)).length = l.length := (hmid k hklt).1
      refine Or.inl ⟨.bool (passF f (nth f.poss n).flag (nth l k)), fun ρ S w hm => passed_c f l (rowF f l (nth f.poss n) k (lookF f l n)) (nth f.poss n).flag k hklt hl _ w (hm.rep 40 (.bx 12 0) _ rfl rfl), ?_⟩
      have hR : rowF f l (nth f.poss n) (k + 1) (lookF f l n) = if passF f (nth f.poss n).flag (nth l k) = true then rowF f l (nth f.poss n) k (lookF f l n) else innerF f l (nth f.poss n) k (nth f.poss n).poss (rowF f l (nth f.poss n) k (lookF f l n)) := rfl
      refine And.intro (fun hp => ?_) (fun hp => ?_)
      · have hp : passF f (nth f.poss n).flag (nth l k) = true := hp
        rw [if_pos hp] at hR
        exact ⟨[0, 1, 2, 3, 4, 5, 6, 7, 8, 9, 10, 11, 12, 13, 14, 15], ⟨k + 1, hklt⟩, And.intro (And.intro (rfl) (And.intro (rfl) (And.intro (rfl) (And.intro (rfl) (And.intro (rfl) (And.intro (rfl) (And.intro (rfl) (And.intro (rfl) (And.intro (rfl) (And.intro (rfl) (And.intro (svI (i64_succ k (by omega))) trivial))))))))))) (And.intro (rfl) (And.intro (rfl) (And.intro (rfl) (And.intro (rfl) (And.intro (rfl) (And.intro (rfl) (And.intro (rfl) (And.intro (rfl) (And.intro (trivial) (And.intro (⟨rfl, rfl⟩) (And.intro (⟨rfl, rfl⟩) (And.intro (congrArg (fun z => Chunk.own 38 Place inferInstance 4 plE z) (hR.symm)) (And.intro (⟨rfl, rfl⟩) (And.intro (rfl) (And.intro (rfl) (And.intro (⟨rfl, rfl⟩) trivial)))))))))))))))), by show _ - (k + 1) < _ - k; omega⟩
      have hp : passF f (nth f.poss n).flag (nth l k) = false := hp
      rw [if_neg (fun h => by rw [hp] at h; cases h)] at hR
      refine ⟨{ q : Nat // q ≤ (nth f.poss n).poss.length ∧ innerF f l (nth f.poss n) k (nth f.poss n).poss (rowF f l (nth f.poss n) k (lookF f l n)) = innerF f l (nth f.poss n) k ((nth f.poss n).poss.drop q) (rowF f l (nth f.poss n) k (lookF f l n)) }, fun q => ⟨88, [⟨1, [], .sl 7⟩, ⟨2, [], .bx 9 0⟩, ⟨5, [], .bx 10 0⟩, ⟨6, [], .bx 12 0⟩, ⟨44, [], .sl 5⟩, ⟨45, [], .v (.int .i64 f.poss.length)⟩, ⟨46, [], .v (.int .i64 n)⟩, ⟨10, [], .bx 15 0⟩, ⟨11, [], .v (.func (.func 28) #[] #[])⟩, ⟨60, [], .v (.int .i64 l.length)⟩, ⟨61, [], .v (.int .i64 k)⟩, ⟨12, [], .v (.int .i64 k)⟩, ⟨70, [], .sl 14⟩, ⟨71, [], .v (.int .i64 (nth f.poss n).poss.length)⟩, ⟨72, [], .v (.int .i64 q.1)⟩],
        apC f l (rowF f l (nth f.poss n) k (lookF f l n)) ++ [.rd Sub inferInstance 7 suE (nth f.poss n).subs, .rd Pos inferInstance 3 poE (nth f.poss n).poss, .bx 56 [.v (.int .u16 (nth f.poss n).ty), .v (.int .u16 (nth f.poss n).flag), .sl 13, .sl 14]], [], dropL nats 16⟩, fun q => (nth f.poss n).poss.length - q.1,
        ⟨[0, 1, 2, 3, 4, 5, 6, 7, 8, 9, 10, 11, 12, 13, 14, 15], ⟨0, by omega, rfl⟩, ?_⟩, fun q => ?_⟩
      · exact And.intro (And.intro (rfl) (And.intro (rfl) (And.intro (rfl) (And.intro (rfl) (And.intro (rfl) (And.intro (rfl) (And.intro (rfl) (And.intro (rfl) (And.intro (rfl) (And.intro (rfl) (And.intro (rfl) (And.intro (rfl) (And.intro (rfl) (And.intro (rfl) (And.intro (rfl) trivial))))))))))))))) (And.intro (rfl) (And.intro (rfl) (And.intro (rfl) (And.intro (rfl) (And.intro (rfl) (And.intro (rfl) (And.intro (rfl) (And.intro (rfl) (And.intro (trivial) (And.intro (⟨rfl, rfl⟩) (And.intro (⟨rfl, rfl⟩) (And.intro (rfl) (And.intro (⟨rfl, rfl⟩) (And.intro (rfl) (And.intro (rfl) (And.intro (⟨rfl, rfl⟩) trivial))))))))))))))))
      obtain ⟨q, hq, hall⟩ := q
      refine And.intro (fun hqlt => ?_) (fun hqge => ?_)
      · have hqlt : q < (nth f.poss n).poss.length := by have : (q : Int) < ((nth f.poss n).poss.length : Int) := of_decide_eq_true hqlt
                                                         omega
        rw [innerF_drop _ _ _ _ _ _ q hqlt, hT] at hall
        refine And.intro (show (0 : Int) ≤ (q : Int) ∧ (q : Int) < ((nth f.poss n).poss.length : Int) from ⟨by omega, by omega⟩) ?_
        have hs := hps _ (nth_mem hqlt)
        have hkk := hks _ (nth_mem hqlt)
        refine ⟨.bool false, fun ρ S w hm => by1_c _ _ _ _ _ _ _ _ w, ?_⟩
        refine And.intro (fun hb => ?_) (fun hb => ?_)
        · have hb : (noT (nth (nth f.poss n).poss q) k (rowF f l (nth f.poss n) k (lookF f l n))).1 = true := hb
          rw [if_pos hb] at hall
          exact ⟨[0, 1, 2, 3, 4, 5, 6, 7, 8, 9, 10, 11, 12, 13, 14, 15], ⟨k + 1, hklt⟩, And.intro (And.intro (rfl) (And.intro (rfl) (And.intro (rfl) (And.intro (rfl) (And.intro (rfl) (And.intro (rfl) (And.intro (rfl) (And.intro (rfl) (And.intro (rfl) (And.intro (rfl) (And.intro (svI (i64_succ k (by omega))) trivial))))))))))) (And.intro (rfl) (And.intro (rfl) (And.intro (rfl) (And.intro (rfl) (And.intro (rfl) (And.intro (rfl) (And.intro (rfl) (And.intro (rfl) (And.intro (trivial) (And.intro (⟨rfl, rfl⟩) (And.intro (⟨rfl, rfl⟩) (And.intro (congrArg (fun z => Chunk.own 38 Place inferInstance 4 plE z) (hall.symm.trans hR.symm)) (And.intro (⟨rfl, rfl⟩) (And.intro (rfl) (And.intro (rfl) (And.intro (⟨rfl, rfl⟩) trivial)))))))))))))))), by show _ - (k + 1) < _ - k; omega⟩
        have hb : (noT (nth (nth f.poss n).poss q) k (rowF f l (nth f.poss n) k (lookF f l n))).1 = false := hb
        rw [if_neg (fun h => by rw [hb] at h; cases h)] at hall
        have hsame := tryT_false (f := f) (l := l) (x := nth f.poss n) (s := nth (nth f.poss n).poss q) (at' := k) (o := rowF f l (nth f.poss n) k (lookF f l n)) (by rw [hT]; exact hb)
        rw [hT] at hsame
        exact ⟨[0, 1, 2, 3, 4, 5, 6, 7, 8, 9, 10, 11, 12, 13, 14, 15], ⟨q + 1, hqlt, hall⟩, And.intro (And.intro (rfl) (And.intro (rfl) (And.intro (rfl) (And.intro (rfl) (And.intro (rfl) (And.intro (rfl) (And.intro (rfl) (And.intro (rfl) (And.intro (rfl) (And.intro (rfl) (And.intro (rfl) (And.intro (rfl) (And.intro (rfl) (And.intro (rfl) (And.intro (svI (i64_succ q (by omega))) trivial))))))))))))))) (And.intro (rfl) (And.intro (rfl) (And.intro (rfl) (And.intro (rfl) (And.intro (rfl) (And.intro (rfl) (And.intro (rfl) (And.intro (rfl) (And.intro (trivial) (And.intro (⟨rfl, rfl⟩) (And.intro (⟨rfl, rfl⟩) (And.intro (congrArg (fun z => Chunk.own 38 Place inferInstance 4 plE z) (hsame)) (And.intro (⟨rfl, rfl⟩) (And.intro (rfl) (And.intro (rfl) (And.intro (⟨rfl, rfl⟩) trivial)))))))))))))))), by show _ - (q + 1) < _ - q; omega⟩
      have hqge : q = (nth f.poss n).poss.length := by have : ¬ (q : Int) < ((nth f.poss n).poss.length : Int) := of_decide_eq_false hqge
                                                       omega
      subst hqge
      rw [List.drop_length] at hall
      exact ⟨[0, 1, 2, 3, 4, 5, 6, 7, 8, 9, 10, 11, 12, 13, 14, 15], ⟨k + 1, hklt⟩, And.intro (And.intro (rfl) (And.intro (rfl) (And.intro (rfl) (And.intro (rfl) (And.intro (rfl) (And.intro (rfl) (And.intro (rfl) (And.intro (rfl) (And.intro (rfl) (And.intro (rfl) (And.intro (svI (i64_succ k (by omega))) trivial))))))))))) (And.intro (rfl) (And.intro (rfl) (And.intro (rfl) (And.intro (rfl) (And.intro (rfl) (And.intro (rfl) (And.intro (rfl) (And.intro (rfl) (And.intro (trivial) (And.intro (⟨rfl, rfl⟩) (And.intro (⟨rfl, rfl⟩) (And.intro (congrArg (fun z => Chunk.own 38 Place inferInstance 4 plE z) (hall.symm.trans hR.symm)) (And.intro (⟨rfl, rfl⟩) (And.intro (rfl) (And.intro (rfl) (And.intro (⟨rfl, rfl⟩) trivial)))))))))))))))), by show _ - (k + 1) < _ - k; omega⟩
    have hkge : k = l.length := by have : ¬ (k : Int) < (l.length : Int) := of_decide_eq_false hkge
                                   omega
    subst hkge
    exact ⟨[0, 1, 2, 3, 4, 5, 6, 7, 8, 9, 10, 11, 12], ⟨n + 1, hlt⟩, And.intro (And.intro (rfl) (And.intro (rfl) (And.intro (rfl) (And.intro (rfl) (And.intro (rfl) (And.intro (rfl) (And.intro (svI (i64_succ n (by omega))) trivial))))))) (And.intro (rfl) (And.intro (rfl) (And.intro (rfl) (And.intro (rfl) (And.intro (rfl) (And.intro (rfl) (And.intro (rfl) (And.intro (rfl) (And.intro (trivial) (And.intro (⟨rfl, rfl⟩) (And.intro (⟨rfl, rfl⟩) (And.intro (congrArg (fun z => Chunk.own 38 Place inferInstance 4 plE z) (hL.symm)) (And.intro (⟨rfl, rfl⟩) trivial))))))))))))), by show _ - (n + 1) < _ - n; omega⟩
  have hge : n = f.poss.length := by have : ¬ (n : Int) < (f.poss.length : Int) := of_decide_eq_false hge
                                     omega
  subst hge
  refine And.intro rfl (dcall_sub [10] (guard_r 0) rfl rfl rfl rfl rfl (And.intro (And.intro rfl rfl) trivial) ?_)
  exact fun ρ S w' hi => ⟨_, rfl, hi.below, hi.fresh 11 ⟨fun p => [.int .i32 p.adv, .int .i64 p.on, .int .i32 p.x, .int .i32 p.y], fun _ => rfl⟩ rfl rfl⟩
end Go.Proofs.Ytaiapnemlnmeiaa
