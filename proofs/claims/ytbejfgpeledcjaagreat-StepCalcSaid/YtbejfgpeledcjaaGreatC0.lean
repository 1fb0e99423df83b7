/- Check of the first program of the law's examples comes to OK. -/
import Derived.Test.YtbejfgpeledcjaaGreatT
set_option linter.unusedVariables false
set_option linter.unusedSimpArgs false
namespace Go.Proofs.YtbejfgpeledcjaaGreat.A
noncomputable section
open Go
set_option maxRecDepth 100000
def blk0 : Bl := [(5, .cells [(i 17), (i 1), (i (-1)), (i 2), (i 6), (i 1), (i 1), (i 0), (i 18), (i 2), (i 1), (i 0), (i 28), (i (-1)), (i 0), (i 0)] 4 false), (6, .cells [(i 0), (i (-1)), (i (-1)), (i (-1))] 1 false), (7, .cells [(i 1)] 1 false), (8, .cells [(i (-1)), (i 1), (i (-2)), (i 2)] 1 false), (9, .cells [(.string ⟨#[82, 79, 79, 84]⟩), (.slice none 0 0), (.slice (some ⟨6, 0, none⟩) 4 4), (i (-1)), (.string ⟨#[67, 69, 76, 76]⟩), (.slice (some ⟨7, 0, none⟩) 1 1), (.slice (some ⟨8, 0, none⟩) 4 4), (i (-1))] 4 false), (10, .cells [(.string ⟨#[82, 79, 79, 84]⟩), (.string ⟨#[109, 97, 107, 101]⟩), (i 0), (.bool false), (.string ⟨#[67, 69, 76, 76]⟩), (.string ⟨#[97, 100, 100]⟩), (i 1), (.bool false), (.string ⟨#[67, 69, 76, 76]⟩), (.string ⟨#[118, 97, 108, 117, 101]⟩), (i 0), (.bool true), (.string ⟨#[67, 69, 76, 76]⟩), (.string ⟨#[105, 110, 105, 116]⟩), (i 0), (.bool false)] 4 false), (23, .cells [(i 21), (i 0), (i 1), (i 1), (i 22), (i 0), (i 3), (i 0), (i 30), (i 0), (i 0), (i 0), (i 1), (i 1), (i 5), (i 0), (i 19), (i 0), (i 1), (i 0), (i 20), (i (-1)), (i 0), (i 1), (i 19), (i 0), (i 1), (i 0), (i 20), (i (-1)), (i 0), (i 1), (i 17), (i 2), (i 0), (i 2), (i 29), (i 2), (i 0), (i 0), (i 31), (i 0), (i 0), (i 0), (i 28), (i (-1)), (i 0), (i 0)] 4 false), (27, .cells [(i 1), (i 0), (i 7), (i 0), (i 18), (i 2), (i 0), (i 0), (i 28), (i (-1)), (i 0), (i 0)] 4 false), (28, .cells [(.string ⟨#[82, 79, 79, 84]⟩), (.string ⟨#[109, 97, 107, 101]⟩), (i 0), (i 3), (i 0), (.slice (some ⟨23, 0, none⟩) 12 12), (.slice none 0 0), (.string ⟨#[67, 69, 76, 76]⟩), (.string ⟨#[97, 100, 100]⟩), (i 1), (i 2), (i 0), (.slice (some ⟨5, 0, none⟩) 4 4), (.slice none 0 0), (.string ⟨#[67, 69, 76, 76]⟩), (.string ⟨#[105, 110, 105, 116]⟩), (i 0), (i 1), (i 0), (.slice (some ⟨27, 0, none⟩) 3 3), (.slice none 0 0)] 7 false)]
def chk0 : Ent := ⟨[(.agg ⟨[(.slice (some ⟨9, 0, none⟩) 2 2), (.slice (some ⟨10, 0, none⟩) 4 4), (.slice (some ⟨28, 0, none⟩) 3 3), (i 0), (i 0)]⟩)], blk0, .tuple ⟨[i 0, .agg ⟨[i 0, i 0]⟩]⟩⟩
theorem chk0_ok : HPure Tryz.prog 120 chk0.args chk0.bl chk0.v := HPure.of_runs (kSim0 60) (N := 29) (by kernel_rfl) (by kernel_rfl)
end
end Go.Proofs.YtbejfgpeledcjaaGreat.A
