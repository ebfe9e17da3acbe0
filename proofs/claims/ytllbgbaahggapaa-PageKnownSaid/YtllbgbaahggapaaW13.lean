/- The walk of PageJoins: it returns true for every input; the arguments stay as they are. -/
import Derived.Test.YtllbgbaahggapaaW12
namespace Go.Proofs.Ytllbgbaahggapaa
open Go Go.Eng Go.RowKit

set_option maxHeartbeats 4000000 in
theorem law_joins_c (fs : List Frame) (l : Int) (ps : List Int) (v pv : Value) (w : World) (hlen : ps.length ≤ 9223372036854775807) (hv : Rd w v 4 Frame.enc fs) (hp : Rd w pv 1 iDV ps) :
    Calls Try.prog 5 #[v, .int .i64 l, pv] w fun e w' => e = .returned (.bool true) ∧ Below w.heap.size w w' := by
  refine calls_exec (cf := cf) cfok (fn := Try.f5) Try.func5 rfl [.sl 0, .v (.int .i64 l), .sl 1] [.rd Frame inferInstance 4 Frame.enc fs, .rd Int inferInstance 1 iDV ps] (ρ := fun i => match i with | 0 => v | _ => pv) (· < w.heap.size) rfl rfl rfl (by simp [svOkL, svOk]) (memRd (fun _ h => h) ⟨hv, hp, trivial⟩) ?_
  refine Or.inl ⟨_, fun ρ S w' hm => many_c ps _ w' (hm.rd 1 rfl rfl), ?_⟩
  refine And.intro (fun _ => ?_) (fun hmany => ?_)
  · refine Or.inl ⟨.bool true, fun ρ S w' hm => works_c w', ?_⟩
    exact fun ρ S w' hi => ⟨rfl, hi.below⟩
  have hmany : manyF ps = false := hmany
  refine Or.inr (lcall_fresh2 (t := 31) (sz := 5) (enc := Spot.enc) (placeF fs l 0 ps).1 (.int .i64 (placeF fs l 0 ps).2) (fun ρ S w hm => place_a fs l 0 ps _ _ w hlen (hm.rd 0 rfl rfl) (hm.rd 1 rfl rfl)) ?_)
  refine And.intro (fun hT => ?_) (fun hF => ?_)
  · have hT : (placeF fs l 0 ps).2 ≠ 0 := by simpa using hT
    have hnil := placeF_err fs l 0 ps hT
    refine Or.inl ⟨.bool true, fun _ ρ S w' hm => works_c w', ?_⟩
    refine fun ρ S w' hi => ⟨?_, hi.below⟩
    show Ending.returned (.bool (decide (((placeF fs l 0 ps).1.length : Int) = 0) && true)) = _
    rw [hnil]; rfl
  have hF : (placeF fs l 0 ps).2 = 0 := by simpa using hF
  obtain ⟨hok, h3000, hb0, hw0, hj⟩ := joins fs l ps hmany hF
  generalize hout : (placeF fs l 0 ps).1 = out at *
  refine Or.inr (lcall_fresh2 (t := 31) (sz := 5) (enc := Spot.enc) (placeF fs l 0 [(out.length : Int)]).1 (.int .i64 (placeF fs l 0 [(out.length : Int)]).2) (fun ρ S w hm => place_a fs l 0 [(out.length : Int)] _ _ w (by simp) (hm.rd 0 rfl rfl) (hm.raw 3 rfl rfl [(out.length : Int)] _ rfl rfl rfl (fun _ _ => rfl))) ?_)
  have hn1 := hok.n1
  refine And.intro ⟨by omega, by show (0 : Int) < fs.length; omega⟩ ?_
  refine Or.inr (lcall_fresh2 (t := 2) (sz := 1) (enc := iDV) (widthsF fs l 0 ⟨0, 0, 0, 0, (nth fs 0).Y⟩ (out.length : Int)).1 (.int .i64 (widthsF fs l 0 ⟨0, 0, 0, 0, (nth fs 0).Y⟩ (out.length : Int)).2) (fun ρ S w hm => widths_c fs l 0 ⟨0, 0, 0, 0, (nth fs 0).Y⟩ (out.length : Int) _ w (hm.rd 0 rfl rfl)) ?_)
  rw [hb0, hw0]
  generalize (placeF fs l 0 [(out.length : Int)]).1 = b at *
  generalize (widthsF fs l 0 ⟨0, 0, 0, 0, (nth fs 0).Y⟩ (out.length : Int)).1 = ws at *
  refine And.intro (fun hbad => ?_) (fun _ => ?_)
  · exfalso
    have hbad : (((!decide ((0 : Int) = 0) || !decide ((0 : Int) = 0)) || !decide ((b.length : Int) = out.length)) || !decide ((ws.length : Int) = out.length)) = true := hbad
    rw [hj.lb, hj.lw] at hbad
    simp at hbad
  refine ⟨{ i : Nat // i ≤ out.length },
    fun i => ⟨134, [⟨0, [], .sl 0⟩, ⟨7, [], .sl 2⟩, ⟨9, [], .sl 3⟩, ⟨11, [], .sl 4⟩, ⟨13, [], .v (.int .i64 i.1)⟩], [.rd Frame inferInstance 4 Frame.enc fs, .rd Int inferInstance 1 iDV ps, .own 31 Spot inferInstance 5 Spot.enc out, .own 31 Spot inferInstance 5 Spot.enc b, .own 2 Int inferInstance 1 iDV ws], [], dropL nats 5⟩,
    fun i => out.length - i.1, ⟨[0, 1, 2, 4, 5], ⟨0, by omega⟩, ?_⟩, fun i => ?_⟩
  · exact And.intro (And.intro rfl (And.intro rfl (And.intro rfl (And.intro rfl (And.intro rfl trivial))))) (And.intro rfl (And.intro rfl (And.intro rfl (And.intro rfl (And.intro rfl trivial)))))
  obtain ⟨i, hi⟩ := i
  refine And.intro (fun hlt => ?_) (fun hge => ?_)
  · have hlt : i < out.length := by simpa using hlt
    obtain ⟨hpos, hwi, hF0, hF1⟩ := hj.ok i hlt
    have hlb := hj.lb
    have hlw := hj.lw
    have ho : (0 : Int) ≤ i ∧ (i : Int) < out.length := by omega
    have hb : (0 : Int) ≤ i ∧ (i : Int) < b.length := by omega
    have hw : (0 : Int) ≤ i ∧ (i : Int) < ws.length := by omega
    refine Or.inl ⟨by kernel_rfl, ?_⟩
    refine And.intro ho (And.intro hb (And.intro (fun _ => ho) (And.intro (fun _ => hb) (And.intro (fun _ => ho) (And.intro (fun _ => hb) (And.intro (fun _ => hw) (And.intro (fun _ => ho) (And.intro (fun _ => ⟨hF0, hF1⟩) ?_))))))))
    simp only [posA, Prod.mk.injEq] at hpos
    obtain ⟨p1, p2, p3⟩ := hpos
    refine And.intro (fun hbad => ?_) (fun _ => ?_)
    · exfalso
      have hbad : (((!decide ((nth out i).Pg = (nth b i).Pg) || !decide ((nth out i).F = (nth b i).F)) || !decide ((nth out i).T = (nth b i).T)) || !decide (nth ws i = (nth fs (nth out i).F.toNat).W)) = true := hbad
      rw [← p1, ← p2, ← p3, hwi] at hbad
      simp at hbad
    · exact ⟨[0, 1, 2, 3, 4], ⟨i + 1, hlt⟩, And.intro (And.intro rfl (And.intro rfl (And.intro rfl (And.intro rfl (And.intro (sv_i64 (i64_succ i (by omega))) trivial))))) (And.intro rfl (And.intro rfl (And.intro rfl (And.intro rfl (And.intro rfl trivial))))), by show _ - (i + 1) < _ - i; omega⟩
  · refine Or.inl ⟨.bool true, fun ρ S w' hm => works_c w', ?_⟩
    exact fun ρ S w' hi => ⟨rfl, hi.below⟩
end Go.Proofs.Ytllbgbaahggapaa
